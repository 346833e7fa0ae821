/- Chapter 30: the laws' helper open: the night of some keepers. -/
import Derived.Test.YtjfondfjdhjooaaGreatDoorCbH
namespace Go.Proofs.YtjfondfjdhjooaaGreatDoor
set_option linter.unusedVariables false
set_option linter.unusedSimpArgs false

section
open Go.RowKit

/-! ### plain: what a keeper opens and what is kept of it -/
def ogOf (kr : Kr) (i : Nat) (A : Option Addr) (c : Nat) : Og := ⟨i, kr.seeds[i]?.getD 0, kslt kr.salt i, A, c, pt (ksL kr.seeds kr.salt) i⟩
def kpOf (kr : Kr) (n m i j : Nat) (A : Option Addr) (c : Nat) : Kp := ⟨i, ((j : Int) + 1, evp (kpoly kr.seeds n kr.random i) ((j : Int) + 1)), A, c, pt (khP kr.seeds n m kr.random kr.seeds.length) (i * m + j)⟩
def okK (m : Nat) (need i : Int) (kr : Kr) : Bool := dvB kr.seeds kr.salt need m kr.random && wiB i 0 ((kr.seeds.length : Int) - 1)
def cmK (m : Nat) (need : Int) (kr : Kr) : ByteArray × ByteArray := cmR kr.seeds kr.salt need m kr.random
/-- Kept shares of a keeper's seed, the first j. -/
def KpsOk (kr : Kr) (n m i j : Nat) (l : List Kp) : Prop := l.length = j ∧ ∀ q, q < j → ∃ A c, l[q]? = some (kpOf kr n m i q A c)
structure NightOk (l : List Kr) (n i k : Nat) (os : List Og) (ks : List Kw) : Prop where
  ol : os.length = k
  kl : ks.length = k
  o : ∀ (j : Nat) (kr : Kr), j < k → l[j]? = some kr → ∃ A c, os[j]? = some (ogOf kr i A c)
  k : ∀ (j : Nat) (kr : Kr), j < k → l[j]? = some kr → ∃ a, ks[j]? = some a ∧ KpsOk kr n l.length i l.length a.l

/-! ### memory -/
theorem info_cm : (Tryz.prog.info? 29).map (fun i => (i.zero, i.size, i.bytes)) = some (some (.agg #[.string ByteArray.empty, .string ByteArray.empty]), 2, 32) := by kernel_rfl
theorem info_og : (Tryz.prog.info? 32).map (fun i => (i.zero, i.size, i.bytes)) = some (some (.agg #[.int .i64 0, .int .i64 0, .string ByteArray.empty, .slice none 0 0]), 4, 56) := by kernel_rfl
theorem info_kp : (Tryz.prog.info? 50).map (fun i => (i.zero, i.size, i.bytes)) = some (some (.agg #[.int .i64 0, .int .i64 0, .int .i64 0, .slice none 0 0]), 4, 48) := by kernel_rfl
theorem info_kw : (Tryz.prog.info? 33).map (fun i => (i.zero, i.size, i.bytes)) = some (some (.slice none 0 0), 1, 24) := by kernel_rfl

/-- A row of kept shares in a block of kept shares; each path in a block of strings. -/
def KwT (w : World) (a : Kw) : Prop := RowOf kpC 4 w a.A a.l ∧ (∀ x : Addr, a.A = some x → ∃ cs : Array Value, w.heap[x.block]? = some (.cells cs 50 (0, 0))) ∧ ∀ k, k ∈ a.l → PathIn w k.A k.p
theorem KwT.keep {w w' : World} {a : Kw} (h : KwT w a) (hs : ∀ (b : Nat) (cs : Array Value), w.heap[b]? = some (.cells cs 9 (0, 0)) → w'.heap[b]? = w.heap[b]?) (hk : ∀ (b : Nat) (cs : Array Value), w.heap[b]? = some (.cells cs 50 (0, 0)) → w'.heap[b]? = w.heap[b]?) : KwT w' a := by
  obtain ⟨h1, h2, h3⟩ := h
  refine ⟨⟨h1.1, fun hn => ?_⟩, fun x hx => ?_, fun k hm => (h3 k hm).keep fun y cs _ hcs => hs _ cs hcs⟩
  · obtain ⟨b, off, e, hc⟩ := h1.2 hn
    obtain ⟨cs, hcs⟩ := h2 _ e
    have hbb : w'.heap[b]? = w.heap[b]? := hk b cs hcs
    exact ⟨b, off, e, fun j u hu => (World.cell?_of_block (w := w) (w' := w') (a := ⟨b, off + j, none⟩) hbb).trans (hc j u hu)⟩
  · obtain ⟨cs, hcs⟩ := h2 x hx
    exact ⟨cs, (hk _ cs hcs).trans hcs⟩
theorem grown_typed {w w' : World} {base e size n : Nat} {v : Value} {xs : List Value} (h : w.ownsRow base e size v n xs) (hg : w.grownBy w' v.ownBlock) {T : Nat} (hT : e ≠ T) : ∀ (b : Nat) (cs : Array Value), w.heap[b]? = some (.cells cs T (0, 0)) → w'.heap[b]? = w.heap[b]? := fun b cs hcs =>
  hg.block b (Array.getElem?_eq_some_iff.1 hcs).1 (fun he => by
    have hb : v.ownBlock = some b := he.symm
    rcases h.2 with ⟨rfl, _⟩ | ⟨g, cap, cur, rfl, _, hh, _⟩
    · simp [Value.ownBlock] at hb
    · have : g = b := by simpa [Value.ownBlock] using hb
      subst this
      rw [hh] at hcs
      injection hcs with hcs
      injection hcs with _ ht
      exact hT ht)
theorem PathIn.setBlk {w : World} {A : Option Addr} {l : List ByteArray} (h : PathIn w A l) {g T : Nat} {cs : Array Value} (hb : Blk w g T cs) (hT : T ≠ 9) (i : Nat) (v : Value) : PathIn (w.setCell ⟨g, i, none⟩ v) A l :=
  h.keep fun a cs' _ hcs => Below.heap_setCell w ⟨g, i, none⟩ v _ (by
    intro e
    have e' : a.block = g := e
    rw [e'] at hcs
    unfold Blk at hb
    rw [hb] at hcs
    injection hcs with hcs
    injection hcs with _ ht
    exact hT ht)
theorem set_typed {w : World} {g T : Nat} {cs : Array Value} (hb : Blk w g T cs) {T' : Nat} (hT : T ≠ T') (i : Nat) (v : Value) : ∀ (b : Nat) (cs' : Array Value), w.heap[b]? = some (.cells cs' T' (0, 0)) → (w.setCell ⟨g, i, none⟩ v).heap[b]? = w.heap[b]? := fun b cs' hcs =>
  Below.heap_setCell w ⟨g, i, none⟩ v _ (by
    intro e
    have e' : b = g := e
    subst e'
    unfold Blk at hb
    rw [hb] at hcs
    injection hcs with hcs
    injection hcs with _ ht
    exact hT ht)
theorem own_typed {w : World} {base e size n : Nat} {A : Option Addr} {c : Nat} {xs : List Value} (h : w.ownsRow base e size (.slice A n c) n xs) : ∀ x : Addr, A = some x → ∃ cs : Array Value, w.heap[x.block]? = some (.cells cs e (0, 0)) := fun x hx => by
  rcases h.2 with ⟨h0, _⟩ | ⟨g, cap, cur, hv, _, hh, _⟩
  · injection h0 with h0; rw [h0] at hx; cases hx
  · injection hv with hv
    rw [hv] at hx
    cases hx
    exact ⟨cur, hh⟩
/-- Open at all arguments: an opening that reads. -/
theorem kopen_gen (kr : Kr) (i : Int) (w : World) (h : KrIn w kr) (hT : Tabs w) :
    Calls Tryz.prog 19 #[.slice kr.SA kr.seeds.length kr.sc, .string kr.salt, .int .i64 i] w fun e w' => ∃ o : Og, e = .returned (.tuple #[.agg #[.int .i64 o.ix, .int .i64 o.v, .string o.salt, .slice o.A o.p.length o.c], .int .i64 (if sdOk kr.seeds kr.salt && wiB i 0 ((kr.seeds.length : Int) - 1) then 0 else 1)]) ∧
      ((sdOk kr.seeds kr.salt && wiB i 0 ((kr.seeds.length : Int) - 1)) = true → ∃ A c, o = ogOf kr i.toNat A c) ∧ PathIn w' o.A o.p ∧ o.p.length ≤ o.c ∧ Below w.heap.size w w' := by
  cases hb : (sdOk kr.seeds kr.salt && wiB i 0 ((kr.seeds.length : Int) - 1)) with
  | false =>
    refine (kopen_bad kr.SA kr.sc kr.seeds kr.salt i w h.s h.sl h.salt (by rw [Bool.and_eq_false_iff] at hb; exact hb)).mono ?_
    rintro e w' ⟨rfl, hbl⟩
    exact ⟨⟨0, 0, ⟨#[]⟩, none, 0, []⟩, rfl, fun h => (by cases h), ⟨⟨rfl, fun h => (by simp at h)⟩, fun a ha => (by cases ha)⟩, Nat.le_refl _, hbl⟩
  | true =>
    simp only [Bool.and_eq_true] at hb
    have hi := of_decide_eq_true hb.2
    obtain ⟨v, hv⟩ := get_some kr.seeds i.toNat (by omega)
    have := kopen_ok kr.SA kr.sc kr.seeds kr.salt i.toNat v w h.s h.salt hb.1 hv hT
    rw [show ((i.toNat : Nat) : Int) = i by omega] at this
    refine this.mono ?_
    rintro e w' ⟨A', c', rfl, hc, hp, hbl⟩
    refine ⟨⟨i, v, kslt kr.salt i.toNat, A', c', pt (ksL kr.seeds kr.salt) i.toNat⟩, rfl, fun _ => ⟨A', c', ?_⟩, hp, hc, hbl⟩
    unfold ogOf
    rw [hv, show ((i.toNat : Nat) : Int) = i by omega]; rfl

def NightMem (w : World) (os : List Og) (ks : List Kw) : Prop := (∀ o, o ∈ os → PathIn w o.A o.p ∧ o.p.length ≤ o.c) ∧ ∀ a, a ∈ ks → KwT w a
theorem NightMem.keep {w w' : World} {os : List Og} {ks : List Kw} (h : NightMem w os ks) (hs : ∀ (b : Nat) (cs : Array Value), w.heap[b]? = some (.cells cs 9 (0, 0)) → w'.heap[b]? = w.heap[b]?) (hk : ∀ (b : Nat) (cs : Array Value), w.heap[b]? = some (.cells cs 50 (0, 0)) → w'.heap[b]? = w.heap[b]?) : NightMem w' os ks :=
  ⟨fun o ho => ⟨(h.1 o ho).1.keep fun a cs _ hcs => hs _ cs hcs, (h.1 o ho).2⟩, fun a ha => (h.2 a ha).keep hs hk⟩
theorem NightMem.below {w w' : World} {os : List Og} {ks : List Kw} (h : NightMem w os ks) (hb : Below w.heap.size w w') : NightMem w' os ks := h.keep (fun b cs hcs => hb.block b (Array.getElem?_eq_some_iff.1 hcs).1) (fun b cs hcs => hb.block b (Array.getElem?_eq_some_iff.1 hcs).1)

structure NightRes (l : List Kr) (need i : Int) (w : World) (CA : Option Addr) (cc : Nat) (OA : Option Addr) (oc : Nat) (KA : Option Addr) (kc : Nat) (os : List Og) (ks : List Kw) : Prop where
  c : RowOf cmC 2 w CA (l.map (cmK l.length need))
  o : RowOf ogC 4 w OA os
  k : RowOf kwC 1 w KA ks
  ok : NightOk l need.toNat i.toNat l.length os ks
  mem : NightMem w os ks
  cc : l.length ≤ cc
  oc : l.length ≤ oc
  kc : l.length ≤ kc
def OpenPost (l : List Kr) (need i : Int) (w : World) (e : Ending) (w' : World) : Prop := Below w.heap.size w w' ∧
  ((l.all (okK l.length need i) = false ∧ ∃ CA k cc OA oc KA kc, e = .returned (.tuple #[.agg #[.slice CA k cc, .slice OA k oc, .slice KA k kc], .bool false])) ∨
   (l.all (okK l.length need i) = true ∧ ∃ CA cc OA oc KA kc os ks, e = .returned (.tuple #[.agg #[.slice CA l.length cc, .slice OA l.length oc, .slice KA l.length kc], .bool true]) ∧ NightRes l need i w' CA cc OA oc KA kc os ks))
structure NightInv (l : List Kr) (need i : Int) (w w0 wr : World) (k : Nat) (uc uo uk : Value) (os : List Og) (ks : List Kw) : Prop where
  b : Below w.heap.size w wr
  r : Blk wr w.heap.size 69 #[.slice none 0 0, .slice none 0 0, .slice none 0 0]
  n : Blk wr (w.heap.size + 1) 69 #[uc, uo, uk]
  rc : wr.ownsRow w0.heap.size 29 2 uc k (((l.take k).map (cmK l.length need)).flatMap cmC)
  ro : wr.ownsRow w0.heap.size 32 4 uo k (os.flatMap ogC)
  rk : wr.ownsRow w0.heap.size 33 1 uk k (ks.flatMap kwC)
  ok : NightOk l need.toNat i.toNat k os ks
  mem : NightMem wr os ks
  all : (l.take k).all (okK l.length need i) = true
theorem NightInv.below {l : List Kr} {need i : Int} {w w0 wr w' : World} {k : Nat} {uc uo uk : Value} {os : List Og} {ks : List Kw} (h : NightInv l need i w w0 wr k uc uo uk os ks) (hb : Below wr.heap.size wr w') : NightInv l need i w w0 w' k uc uo uk os ks :=
  ⟨below_trans h.b hb, (hb.block _ h.r.lt).trans h.r, (hb.block _ h.n.lt).trans h.n, row_below h.rc hb, row_below h.ro hb, row_below h.rk hb, h.ok, h.mem.below hb, h.all⟩
theorem size_nt : (Tryz.prog.info? 69).map (·.size) = some 3 := by kernel_rfl
theorem own_typed_keep {w w' : World} {B e size n : Nat} {v : Value} {xs : List Value} (h : w.ownsRow B e size v n xs) (hk : ∀ (b : Nat) (cs : Array Value), w.heap[b]? = some (.cells cs e (0, 0)) → w'.heap[b]? = w.heap[b]?) : w'.ownsRow B e size v n xs := by
  refine ⟨h.1, ?_⟩
  rcases h.2 with hn | ⟨g, cap, cur, rfl, hg, hgg, rest⟩
  · exact .inl hn
  · exact .inr ⟨g, cap, cur, rfl, hg, (hk g cur hgg).trans hgg, rest⟩
theorem own_setCell {w : World} {B e size n g : Nat} {v : Value} {xs : List Value} (h : w.ownsRow B e size v n xs) (hg : g < B) (i : Nat) (u : Value) : (w.setCell ⟨g, i, none⟩ u).ownsRow B e size v n xs := by
  refine ⟨h.1, ?_⟩
  rcases h.2 with hn | ⟨g', cap, cur, rfl, hg', hgg, rest⟩
  · exact .inl hn
  · exact .inr ⟨g', cap, cur, rfl, hg', (Below.heap_setCell w ⟨g, i, none⟩ u g' (by intro e; have e' : g' = g := e; omega)).trans hgg, rest⟩
theorem step_typed {W w' : World} {B e size n gN : Nat} {u : Value} {xs : List Value} {cs0 : Array Value} (hrow : W.ownsRow B e size u n xs) (hg : W.grownBy w' u.ownBlock) (hn : Blk w' gN 69 cs0) {T : Nat} (hTe : e ≠ T) (hTn : 69 ≠ T) (i : Nat) (v : Value) :
    ∀ (b : Nat) (cs : Array Value), W.heap[b]? = some (.cells cs T (0, 0)) → (w'.setCell ⟨gN, i, none⟩ v).heap[b]? = W.heap[b]? := fun b cs h =>
  have h1 := grown_typed hrow hg hTe b cs h
  (set_typed hn hTn i v b cs (h1.trans h)).trans h1
theorem row_typed {w : World} {g T : Nat} {old : Array Value} (hb : Blk w g T old) {T' : Nat} (hT : T ≠ T') (cs : Array Value) : ∀ (b : Nat) (cs' : Array Value), w.heap[b]? = some (.cells cs' T' (0, 0)) → (w.setRow g cs).heap[b]? = w.heap[b]? := fun b cs' hcs =>
  setRow_other w g b cs (by
    intro e
    subst e
    unfold Blk at hb
    rw [hb] at hcs
    injection hcs with hcs
    injection hcs with _ ht
    exact hT ht)
/-- Between a keeper's shares and the next keeper. -/
structure Mid (w w0 W : World) (uc uo uk : Value) (kc ko kk : Nat) (Lc Lo Lk : List Value) (os : List Og) (ks : List Kw) (o : Og) (a : Kw) : Prop where
  b : Below w.heap.size w W
  r : Blk W w.heap.size 69 #[.slice none 0 0, .slice none 0 0, .slice none 0 0]
  n : Blk W (w.heap.size + 1) 69 #[uc, uo, uk]
  rc : W.ownsRow w0.heap.size 29 2 uc kc Lc
  ro : W.ownsRow w0.heap.size 32 4 uo ko Lo
  rk : W.ownsRow w0.heap.size 33 1 uk kk Lk
  mem : NightMem W os ks
  po : PathIn W o.A o.p
  ka : KwT W a
theorem Mid.below {w w0 W W' : World} {uc uo uk : Value} {kc ko kk : Nat} {Lc Lo Lk : List Value} {os : List Og} {ks : List Kw} {o : Og} {a : Kw} (h : Mid w w0 W uc uo uk kc ko kk Lc Lo Lk os ks o a) (hb : Below W.heap.size W W') : Mid w w0 W' uc uo uk kc ko kk Lc Lo Lk os ks o a :=
  ⟨below_trans h.b hb, (hb.block _ h.r.lt).trans h.r, (hb.block _ h.n.lt).trans h.n, row_below h.rc hb, row_below h.ro hb, row_below h.rk hb, h.mem.below hb, h.po.below hb, h.ka.keep (fun b cs hcs => hb.block b (Array.getElem?_eq_some_iff.1 hcs).1) (fun b cs hcs => hb.block b (Array.getElem?_eq_some_iff.1 hcs).1)⟩
theorem Mid.stepC {w w0 W w' : World} {uc uo uk v : Value} {kc ko kk kc' : Nat} {Lc Lo Lk Lc' : List Value} {os : List Og} {ks : List Kw} {o : Og} {a : Kw} (h : Mid w w0 W uc uo uk kc ko kk Lc Lo Lk os ks o a) (hz : w0.heap.size = w.heap.size + 2)
    (hown : w'.ownsRow w0.heap.size 29 2 v kc' Lc') (hg : W.grownBy w' uc.ownBlock) : Mid w w0 (w'.setCell ⟨w.heap.size + 1, 0, none⟩ v) v uo uk kc' ko kk Lc' Lo Lk os ks o a := by
  have hn : Blk w' (w.heap.size + 1) 69 #[uc, uo, uk] := h.n.grown hg (fun e => by have := (h.rc.lt _ e.symm).1; omega)
  have hr : Blk w' w.heap.size 69 _ := h.r.grown hg (fun e => by have := (h.rc.lt _ e.symm).1; omega)
  have ks_ := step_typed h.rc hg hn (T := 9) (by decide) (by decide) 0 v
  have kk_ := step_typed h.rc hg hn (T := 50) (by decide) (by decide) 0 v
  exact ⟨(h.b.grown hg h.b.size (fun j hj => by have := (h.rc.lt j hj).1; omega)).setCell (by simp) _, hr.far (by simp) _, hn.set 0 v, own_setCell hown (by omega) _ _,
    own_typed_keep h.ro (step_typed h.rc hg hn (by decide) (by decide) 0 v), own_typed_keep h.rk (step_typed h.rc hg hn (by decide) (by decide) 0 v), h.mem.keep ks_ kk_, h.po.keep (fun a cs _ hcs => ks_ _ cs hcs), h.ka.keep ks_ kk_⟩
theorem Mid.stepO {w w0 W w' : World} {uc uo uk v : Value} {kc ko kk ko' : Nat} {Lc Lo Lk Lo' : List Value} {os : List Og} {ks : List Kw} {o : Og} {a : Kw} (h : Mid w w0 W uc uo uk kc ko kk Lc Lo Lk os ks o a) (hz : w0.heap.size = w.heap.size + 2)
    (hown : w'.ownsRow w0.heap.size 32 4 v ko' Lo') (hg : W.grownBy w' uo.ownBlock) : Mid w w0 (w'.setCell ⟨w.heap.size + 1, 1, none⟩ v) uc v uk kc ko' kk Lc Lo' Lk os ks o a := by
  have hn : Blk w' (w.heap.size + 1) 69 #[uc, uo, uk] := h.n.grown hg (fun e => by have := (h.ro.lt _ e.symm).1; omega)
  have hr : Blk w' w.heap.size 69 _ := h.r.grown hg (fun e => by have := (h.ro.lt _ e.symm).1; omega)
  have ks_ := step_typed h.ro hg hn (T := 9) (by decide) (by decide) 1 v
  have kk_ := step_typed h.ro hg hn (T := 50) (by decide) (by decide) 1 v
  exact ⟨(h.b.grown hg h.b.size (fun j hj => by have := (h.ro.lt j hj).1; omega)).setCell (by simp) _, hr.far (by simp) _, hn.set 1 v,
    own_typed_keep h.rc (step_typed h.ro hg hn (by decide) (by decide) 1 v), own_setCell hown (by omega) _ _, own_typed_keep h.rk (step_typed h.ro hg hn (by decide) (by decide) 1 v), h.mem.keep ks_ kk_, h.po.keep (fun a cs _ hcs => ks_ _ cs hcs), h.ka.keep ks_ kk_⟩
theorem Mid.stepK {w w0 W w' : World} {uc uo uk v : Value} {kc ko kk kk' : Nat} {Lc Lo Lk Lk' : List Value} {os : List Og} {ks : List Kw} {o : Og} {a : Kw} (h : Mid w w0 W uc uo uk kc ko kk Lc Lo Lk os ks o a) (hz : w0.heap.size = w.heap.size + 2)
    (hown : w'.ownsRow w0.heap.size 33 1 v kk' Lk') (hg : W.grownBy w' uk.ownBlock) : Mid w w0 (w'.setCell ⟨w.heap.size + 1, 2, none⟩ v) uc uo v kc ko kk' Lc Lo Lk' os ks o a := by
  have hn : Blk w' (w.heap.size + 1) 69 #[uc, uo, uk] := h.n.grown hg (fun e => by have := (h.rk.lt _ e.symm).1; omega)
  have hr : Blk w' w.heap.size 69 _ := h.r.grown hg (fun e => by have := (h.rk.lt _ e.symm).1; omega)
  have ks_ := step_typed h.rk hg hn (T := 9) (by decide) (by decide) 2 v
  have kk_ := step_typed h.rk hg hn (T := 50) (by decide) (by decide) 2 v
  exact ⟨(h.b.grown hg h.b.size (fun j hj => by have := (h.rk.lt j hj).1; omega)).setCell (by simp) _, hr.far (by simp) _, hn.set 2 v,
    own_typed_keep h.rc (step_typed h.rk hg hn (by decide) (by decide) 2 v), own_typed_keep h.ro (step_typed h.rk hg hn (by decide) (by decide) 2 v), own_setCell hown (by omega) _ _, h.mem.keep ks_ kk_, h.po.keep (fun a cs _ hcs => ks_ _ cs hcs), h.ka.keep ks_ kk_⟩
theorem dvB_nosalt {l : List Int} {salt : ByteArray} {need total : Int} {random : List Int} (h : dvB l salt need total random = true) : dvB l ⟨#[]⟩ need total random = true := by
  simp only [dvB, sdOk, Bool.and_eq_true, decide_eq_true_eq] at h ⊢
  exact ⟨⟨h.1.1, h.1.2.1, h.1.2.2.1, Nat.zero_le _⟩, h.2⟩
theorem KpsOk.snoc {kr : Kr} {n m i j : Nat} {l : List Kp} (h : KpsOk kr n m i j l) {q : Kp} (hq : ∃ A c, q = kpOf kr n m i j A c) : KpsOk kr n m i (j + 1) (l ++ [q]) := by
  refine ⟨by simp [h.1], fun p hp => ?_⟩
  by_cases h' : p < j
  · rw [List.getElem?_append_left (by rw [h.1]; exact h')]
    exact h.2 p h'
  · obtain rfl : p = j := by omega
    obtain ⟨A, c, rfl⟩ := hq
    exact ⟨A, c, by rw [List.getElem?_append_right (by rw [h.1]; exact Nat.le_refl _)]; simp [h.1]⟩
theorem NightInv.res {l : List Kr} {need i : Int} {w w0 wr : World} {CA OA KA : Option Addr} {cc oc kc : Nat} {os : List Og} {ks : List Kw} (h : NightInv l need i w w0 wr l.length (.slice CA l.length cc) (.slice OA l.length oc) (.slice KA l.length kc) os ks) (cs : Array Value) :
    NightRes l need i (wr.setRow w.heap.size cs) CA cc OA oc KA kc os ks := by
  obtain ⟨CA', cc', e1, h1, -, r1⟩ := Rd.of_own (own_typed_keep h.rc (row_typed h.r (by decide) cs))
  obtain ⟨OA', oc', e2, h2, -, r2⟩ := Rd.of_own (own_typed_keep h.ro (row_typed h.r (by decide) cs))
  obtain ⟨KA', kc', e3, h3, -, r3⟩ := Rd.of_own (own_typed_keep h.rk (row_typed h.r (by decide) cs))
  injection e1 with a1 a2 a3
  injection e2 with b1 b2 b3
  injection e3 with c1 c2 c3
  subst a1 a3 b1 b3 c1 c3
  rw [List.take_of_length_le (Nat.le_refl _)] at r1
  exact ⟨by unfold RowOf; rw [List.length_map]; exact r1, by unfold RowOf; rw [h.ok.ol]; exact r2, by unfold RowOf; rw [h.ok.kl]; exact r3, h.ok, h.mem.keep (row_typed h.r (by decide) cs) (row_typed h.r (by decide) cs), h1, h2, h3⟩
theorem Mid.blkC {w w0 W w' : World} {uc uo uk : Value} {kc ko kk : Nat} {Lc Lo Lk : List Value} {os : List Og} {ks : List Kw} {o : Og} {a : Kw} (h : Mid w w0 W uc uo uk kc ko kk Lc Lo Lk os ks o a) (hz : w0.heap.size = w.heap.size + 2) (hg : W.grownBy w' uc.ownBlock) : Blk w' (w.heap.size + 1) 69 #[uc, uo, uk] :=
  h.n.grown hg (fun e => by have := (h.rc.lt _ e.symm).1; omega)
theorem Mid.blkO {w w0 W w' : World} {uc uo uk : Value} {kc ko kk : Nat} {Lc Lo Lk : List Value} {os : List Og} {ks : List Kw} {o : Og} {a : Kw} (h : Mid w w0 W uc uo uk kc ko kk Lc Lo Lk os ks o a) (hz : w0.heap.size = w.heap.size + 2) (hg : W.grownBy w' uo.ownBlock) : Blk w' (w.heap.size + 1) 69 #[uc, uo, uk] :=
  h.n.grown hg (fun e => by have := (h.ro.lt _ e.symm).1; omega)
theorem Mid.blkK {w w0 W w' : World} {uc uo uk : Value} {kc ko kk : Nat} {Lc Lo Lk : List Value} {os : List Og} {ks : List Kw} {o : Og} {a : Kw} (h : Mid w w0 W uc uo uk kc ko kk Lc Lo Lk os ks o a) (hz : w0.heap.size = w.heap.size + 2) (hg : W.grownBy w' uk.ownBlock) : Blk w' (w.heap.size + 1) 69 #[uc, uo, uk] :=
  h.n.grown hg (fun e => by have := (h.rk.lt _ e.symm).1; omega)
theorem NightOk.snoc {l : List Kr} {n i k : Nat} {os : List Og} {ks : List Kw} (h : NightOk l n i k os ks) {x : Kr} {o : Og} {a : Kw} (hx : l[k]? = some x) (ho : ∃ A c, o = ogOf x i A c) (hk : KpsOk x n l.length i l.length a.l) : NightOk l n i (k + 1) (os ++ [o]) (ks ++ [a]) := by
  refine ⟨by simp [h.ol], by simp [h.kl], fun j kr hj hkr => ?_, fun j kr hj hkr => ?_⟩
  · by_cases h' : j < k
    · rw [List.getElem?_append_left (by rw [h.ol]; exact h')]
      exact h.o j kr h' hkr
    · obtain rfl : j = k := by omega
      rw [hx] at hkr
      cases hkr
      obtain ⟨A, c, rfl⟩ := ho
      exact ⟨A, c, by rw [List.getElem?_append_right (by rw [h.ol]; exact Nat.le_refl _)]; simp [h.ol]⟩
  · by_cases h' : j < k
    · rw [List.getElem?_append_left (by rw [h.kl]; exact h')]
      exact h.k j kr h' hkr
    · obtain rfl : j = k := by omega
      rw [hx] at hkr
      cases hkr
      exact ⟨a, by rw [List.getElem?_append_right (by rw [h.kl]; exact Nat.le_refl _)]; simp [h.kl], hk⟩
theorem NightInv.next {l : List Kr} {need i : Int} {w w0 wr W : World} {k : Nat} {uc uo uk v1 v2 v3 : Value} {os : List Og} {ks : List Kw} {o : Og} {a : Kw} {x : Kr} (h : NightInv l need i w w0 wr k uc uo uk os ks)
    (hm : Mid w w0 W v1 v2 v3 (k + 1) (k + 1) (k + 1) (((l.take k).map (cmK l.length need)).flatMap cmC ++ [.string (cmK l.length need x).1, .string (cmK l.length need x).2]) (os.flatMap ogC ++ [.int .i64 o.ix, .int .i64 o.v, .string o.salt, .slice o.A o.p.length o.c]) (ks.flatMap kwC ++ [.slice a.A a.l.length a.c]) os ks o a)
    (hx : l[k]? = some x) (ho : ∃ A c, o = ogOf x i.toNat A c) (hk : KpsOk x need.toNat l.length i.toNat l.length a.l) (hok : okK l.length need i x = true) (hoc : o.p.length ≤ o.c) : NightInv l need i w w0 W (k + 1) v1 v2 v3 (os ++ [o]) (ks ++ [a]) := by
  have ht : l.take (k + 1) = l.take k ++ [x] := by rw [List.take_add_one, hx]; rfl
  refine ⟨hm.b, hm.r, hm.n, ?_, ?_, ?_, h.ok.snoc hx ho hk, ⟨fun o' ho' => ?_, fun a' ha' => ?_⟩, ?_⟩
  · rw [ht, List.map_append, List.flatMap_append]; exact hm.rc
  · rw [List.flatMap_append]; exact hm.ro
  · rw [List.flatMap_append]; exact hm.rk
  · rcases List.mem_append.1 ho' with h' | h'
    · exact hm.mem.1 o' h'
    · rw [List.mem_singleton.1 h']; exact ⟨hm.po, hoc⟩
  · rcases List.mem_append.1 ha' with h' | h'
    · exact hm.mem.2 a' h'
    · rw [List.mem_singleton.1 h']; exact hm.ka
  · rw [ht, List.all_append, h.all, Bool.true_and, List.all_cons, hok]; rfl
set_option maxRecDepth 100000 in
set_option maxHeartbeats 64000000 in
theorem kopen_walk (A : Option Addr) (c : Nat) (l : List Kr) (need i : Int) (w : World) (hA : RowOf krC 3 w A l) (hI : ∀ kr, kr ∈ l → KrIn w kr) (hl : l.length ≤ 7) (hT : Tabs w) :
    Calls Tryz.prog 34 #[.slice A l.length c, .int .i64 need, .int .i64 i] w (OpenPost l need i w) := by
  have HA : Hid (∀ W, Below w.heap.size w W → RowOf krC 3 W A l) := Lib.hid (fun W hW => hA.below hW)
  have HIN : Hid (∀ kr, kr ∈ l → ∀ W, Below w.heap.size w W → KrIn W kr) := Lib.hid (fun kr hk W hW => (hI kr hk).below hW)
  have HT : Hid (∀ W, Below w.heap.size w W → Tabs W) := Lib.hid (fun W hW => hT.below hW)
  obtain ⟨ic, hic, hc0, hc1, hc2⟩ := info_parts info_cm
  have HIC := Lib.hid (And.intro hic (And.intro hc0 (And.intro hc1 hc2)))
  obtain ⟨io, hio, ho0, ho1, ho2⟩ := info_parts info_og
  have HIO := Lib.hid (And.intro hio (And.intro ho0 (And.intro ho1 ho2)))
  obtain ⟨ik, hik, hk0, hk1, hk2⟩ := info_parts info_kw
  have HIK := Lib.hid (And.intro hik (And.intro hk0 (And.intro hk1 hk2)))
  obtain ⟨ip, hip, hp0, hp1, hp2⟩ := info_parts info_kp
  have HIP := Lib.hid (And.intro hip (And.intro hp0 (And.intro hp1 hp2)))
  clear hA hI hT hic hc0 hc1 hc2 hio ho0 ho1 ho2 hik hk0 hk1 hk2 hip hp0 hp1 hp2
  go_enter Tryz.func34, Tryz.ntmps34
  go_wp2_with fail
  obtain ⟨w0, hw0⟩ : ∃ w0, (w.alloc (.cells #[.slice none 0 0, .slice none 0 0, .slice none 0 0] 69)).alloc (.cells #[.slice none 0 0, .slice none 0 0, .slice none 0 0] 69) = w0 := ⟨_, rfl⟩
  have HINV : Hid (NightInv l need i w w0 w0 0 (.slice none 0 0) (.slice none 0 0) (.slice none 0 0) [] []) := Lib.hid ⟨by rw [← hw0]; exact below_alloc (below_alloc (Below.refl _ _) _) _, by rw [← hw0]; exact (Blk.new w _ _ _ rfl).alloc _, by rw [← hw0]; exact Blk.new _ _ _ _ (by simp), World.ownsRow_nil _ _ _ _, World.ownsRow_nil _ _ _ _, World.ownsRow_nil _ _ _ _, ⟨rfl, rfl, fun j kr hj => (by omega), fun j kr hj => (by omega)⟩, ⟨fun o ho => (by cases ho), fun a ha => (by cases ha)⟩, rfl⟩
  have HZ0 : Hid (w0.heap.size = w.heap.size + 2) := Lib.hid (by rw [← hw0]; simp)
  rw [hw0]
  clear hw0
  go_loopw [9] (fun u9 wr => ∃ (k : Nat) (uc uo uk : Value) (os : List Og) (ks : List Kw), k ≤ l.length ∧ u9 = .int .i64 k ∧ NightInv l need i w w0 wr k uc uo uk os ks) (fun u9 _ => l.length - (intOf u9).toNat)
  case atStart => exact ⟨0, _, _, _, [], [], Nat.zero_le _, rfl, HINV.out⟩
  case round =>
  obtain ⟨k, uc, uo, uk, os, ks, hk, rfl, hinv⟩ := hrel
  have HV := Lib.hid hinv
  have HBk := Lib.hid hinv.b
  clear hinv
  by_cases hlt : k < l.length
  case neg =>
    obtain rfl : k = l.length := by omega
    obtain ⟨CA, cc, rfl, -, -, -⟩ := Rd.of_own HV.out.rc
    obtain ⟨OA, oc, rfl, -, -, -⟩ := Rd.of_own HV.out.ro
    obtain ⟨KA, kc, rfl, -, -, -⟩ := Rd.of_own HV.out.rk
    have n0 := HV.out.n.of_cell (i := 0) rfl
    have n1 := HV.out.n.of_cell (i := 1) rfl
    have n2 := HV.out.n.of_cell (i := 2) rfl
    have nl := HV.out.n.lt
    have HBK := Lib.hid HV.out.r
    have hall := HV.out.all
    rw [List.take_of_length_le (Nat.le_refl _)] at hall
    have HALL := Lib.hid hall
    clear hall
    go_wp2_with (refine wpList_store_row rfl 69 (.tmp 6) (.tmp 118) rfl w.heap.size #[.slice CA l.length cc, .slice OA l.length oc, .slice KA l.length kc] rfl rfl 69 #[.slice none 0 0, .slice none 0 0, .slice none 0 0] HBK.out size_nt rfl (by simp [Value.oneCell']) ?_)
    have hbk := Blk.rowK HBK.out #[.slice CA l.length cc, .slice OA l.length oc, .slice KA l.length kc]
    have hbel := below_setRow HBk.out (Nat.le_refl _) #[.slice CA l.length cc, .slice OA l.length oc, .slice KA l.length kc]
    have hres := HV.out.res #[.slice CA l.length cc, .slice OA l.length oc, .slice KA l.length kc]
    generalize wr.setRow w.heap.size #[.slice CA l.length cc, .slice OA l.length oc, .slice KA l.length kc] = wz at *
    have cc0 := hbk.of_cell (i := 0) rfl
    have cc1 := hbk.of_cell (i := 1) rfl
    have cc2 := hbk.of_cell (i := 2) rfl
    have hlz := hbk.lt
    have HRES := Lib.hid hres
    have HBEL := Lib.hid hbel
    clear hbk hres hbel n0 n1 n2 nl
    go_wp2
    exact bodyPost_ret (v := .tuple #[.agg #[.slice CA l.length cc, .slice OA l.length oc, .slice KA l.length kc], .bool true]) (by simp [results, Tryz.results34, go_sem, cc0, cc1, cc2, hlz]) rfl ⟨HBEL.out, .inr ⟨HALL.out, _, _, _, _, _, _, _, _, rfl, HRES.out⟩⟩
  case pos =>
  obtain ⟨x, hx⟩ := get_some l k hlt
  have HC : Hid (∀ W, Below w.heap.size w W → ∃ b off, A = some ⟨b, off, none⟩ ∧ W.cell? ⟨b, off + k * 3, none⟩ = some (.slice x.SA x.seeds.length x.sc) ∧ W.cell? ⟨b, off + k * 3 + 1, none⟩ = some (.string x.salt) ∧ W.cell? ⟨b, off + k * 3 + 2, none⟩ = some (.slice x.RA x.random.length x.rc) ∧ b < W.heap.size) := Lib.hid (fun W hW => by
    obtain ⟨b, off, he, c0, c1, c2⟩ := kr_cells (HA.out W hW) hx
    exact ⟨b, off, he, c0, c1, c2, lt_of_cell c0⟩)
  obtain ⟨bA, oA, hAe, -, -, -, -⟩ := HC.out w (Below.refl _ _)
  subst hAe
  have HIX : Hid (∀ W, Below w.heap.size w W → KrIn W x) := Lib.hid (fun W hW => HIN.out x (List.mem_of_getElem? hx) W hW)
  have HX := Lib.hid hx
  clear hx
  have hki : (k : Int) < (l.length : Int) := by omega
  obtain ⟨b1, hb1⟩ : ∃ b, dvB x.seeds x.salt need l.length x.random = b := ⟨_, rfl⟩
  obtain ⟨b2, hb2⟩ : ∃ b, (sdOk x.seeds x.salt && wiB i 0 ((x.seeds.length : Int) - 1)) = b := ⟨_, rfl⟩
  obtain ⟨e1, he1⟩ : ∃ e, (if b1 = true then (0 : Int) else 1) = e := ⟨_, rfl⟩
  obtain ⟨e2, he2⟩ : ∃ e, (if b2 = true then (0 : Int) else 1) = e := ⟨_, rfl⟩
  have HCM : Hid (∀ W, Below w.heap.size w W → Calls Tryz.prog 17 #[.slice x.SA x.seeds.length x.sc, .string x.salt, .int .i64 need, .int .i64 l.length, .slice x.RA x.random.length x.rc] W fun e w' => e = .returned (.tuple #[.agg #[.string (cmK l.length need x).1, .string (cmK l.length need x).2], .int .i64 e1]) ∧ Below W.heap.size W w') := Lib.hid (fun W hW => by
    have h := HIX.out W hW
    have := kcommit_any x.SA x.sc x.seeds x.salt need l.length x.RA x.rc x.random W h.s h.r h.sl h.salt h.rc h.rcm (HT.out W hW)
    rw [hb1, he1] at this
    exact this)
  have HOP : Hid (∀ W, Below w.heap.size w W → Calls Tryz.prog 19 #[.slice x.SA x.seeds.length x.sc, .string x.salt, .int .i64 i] W fun e w' => ∃ o : Og, e = .returned (.tuple #[.agg #[.int .i64 o.ix, .int .i64 o.v, .string o.salt, .slice o.A o.p.length o.c], .int .i64 e2]) ∧ (b2 = true → ∃ A c, o = ogOf x i.toNat A c) ∧ PathIn w' o.A o.p ∧ o.p.length ≤ o.c ∧ Below W.heap.size W w') := Lib.hid (fun W hW => by
    have := kopen_gen x i W (HIX.out W hW) (HT.out W hW)
    rw [hb2, he2] at this
    exact this)
  have HB1 := Lib.hid hb1
  have HB2 := Lib.hid hb2
  have HE1 := Lib.hid he1
  have HE2 := Lib.hid he2
  clear hb1 hb2 he1 he2
  generalize hca : (cmK l.length need x).1 = ca at *
  generalize hcb : (cmK l.length need x).2 = cb at *
  have HCAB := Lib.hid (And.intro hca hcb)
  clear hca hcb
  go_wp2_with fail
  refine wp_region_held_drew (S := fun W => Below wr.heap.size wr W) (by kernel_rfl) ((Below.refl _ _).drew) (fun hS0 => ?_)
  refine wpAnyH_take (i := 0) (v := ?_) rfl (by kernel_rfl) (by kernel_rfl) (by kernel_rfl) (fun _ _ _ h => h) (Or.inl ⟨by kernel_rfl, ?hy⟩) hS0 ?rest
  case hy => (intro W hSw; clear hSw; go_simp; with_reducible rfl)
  case rest =>
  refine wpAnyH_take (i := 1) (v := ?_) rfl (by kernel_rfl) (by kernel_rfl) (by kernel_rfl) (fun _ _ _ h => h) (Or.inl ⟨by kernel_rfl, ?hy⟩) hS0 ?rest
  case hy => (intro W hSw; clear hSw; go_simp; with_reducible rfl)
  case rest =>
  refine wpAnyH_take (i := 2) (v := ?_) rfl (by kernel_rfl) (by kernel_rfl) (by kernel_rfl) (fun _ _ _ h => h) (Or.inl ⟨by kernel_rfl, ?hy⟩) hS0 ?rest
  case hy => (intro W hSw; clear hSw; go_simp; with_reducible rfl)
  case rest =>
  refine wpAnyH_take (i := 3) (v := ?_) rfl (by kernel_rfl) (by kernel_rfl) (by kernel_rfl) (fun _ _ _ h => h) (Or.inl ⟨by kernel_rfl, ?hy⟩) hS0 ?rest
  case hy => (intro W hSw; clear hSw; go_simp; with_reducible rfl)
  case rest =>
  refine wpAnyH_take (i := 4) (v := ?_) rfl (by kernel_rfl) (by kernel_rfl) (by kernel_rfl) (fun _ _ _ h => h) (Or.inl ⟨by kernel_rfl, ?hy⟩) hS0 ?rest
  case hy => (intro W hSw; obtain ⟨b_, f_, he_, c0, c1, c2, cl⟩ := HC.out W (below_trans HBk.out hSw); cases he_; clear hSw; go_simp; with_reducible rfl)
  case rest =>
  refine wpAnyH_take (i := 5) (v := ?_) rfl (by kernel_rfl) (by kernel_rfl) (by kernel_rfl) (fun _ _ _ h => h) (Or.inl ⟨by kernel_rfl, ?hy⟩) hS0 ?rest
  case hy => (intro W hSw; clear hSw; go_simp; with_reducible rfl)
  case rest =>
  try go_simp
  refine wpAnyH_take (i := 6) (v := ?_) rfl (by kernel_rfl) (by kernel_rfl) (by kernel_rfl) (fun _ _ _ h => h) (Or.inl ⟨by kernel_rfl, ?hy⟩) hS0 ?rest
  case hy => (intro W hSw; clear hSw; go_simp; with_reducible rfl)
  case rest =>
  refine wpAnyH_take (i := 7) (v := ?_) rfl (by kernel_rfl) (by kernel_rfl) (by kernel_rfl) (fun _ _ _ h => h) (Or.inl ⟨by kernel_rfl, ?hy⟩) hS0 ?rest
  case hy => (intro W hSw; clear hSw; go_simp; with_reducible rfl)
  case rest =>
  refine wpAnyH_take (i := 8) (v := ?_) rfl (by kernel_rfl) (by kernel_rfl) (by kernel_rfl) (fun _ _ _ h => h) (Or.inl ⟨by kernel_rfl, ?hy⟩) hS0 ?rest
  case hy => (intro W hSw; clear hSw; go_simp; with_reducible rfl)
  case rest =>
  refine wpAnyH_take (i := 9) (v := ?_) rfl (by kernel_rfl) (by kernel_rfl) (by kernel_rfl) (fun _ _ _ h => h) (Or.inl ⟨by kernel_rfl, ?hy⟩) hS0 ?rest
  case hy => (intro W hSw; obtain ⟨b_, f_, he_, c0, c1, c2, cl⟩ := HC.out W (below_trans HBk.out hSw); cases he_; clear hSw; go_simp; with_reducible rfl)
  case rest =>
  refine wpAnyH_take (i := 10) (v := ?_) rfl (by kernel_rfl) (by kernel_rfl) (by kernel_rfl) (fun _ _ _ h => h) (Or.inl ⟨by kernel_rfl, ?hy⟩) hS0 ?rest
  case hy => (intro W hSw; clear hSw; go_simp; with_reducible rfl)
  case rest =>
  refine wpAnyH_take (i := 11) (v := ?_) rfl (by kernel_rfl) (by kernel_rfl) (by kernel_rfl) (fun _ _ _ h => h) (Or.inl ⟨by kernel_rfl, ?hy⟩) hS0 ?rest
  case hy => (intro W hSw; clear hSw; go_simp; with_reducible rfl)
  case rest =>
  try go_simp
  refine wpAnyH_take (i := 12) (v := ?_) rfl (by kernel_rfl) (by kernel_rfl) (by kernel_rfl) (fun _ _ _ h => h) (Or.inl ⟨by kernel_rfl, ?hy⟩) hS0 ?rest
  case hy => (intro W hSw; clear hSw; go_simp; with_reducible rfl)
  case rest =>
  refine wpAnyH_take (i := 13) (v := ?_) rfl (by kernel_rfl) (by kernel_rfl) (by kernel_rfl) (fun _ _ _ h => h) (Or.inl ⟨by kernel_rfl, ?hy⟩) hS0 ?rest
  case hy => (intro W hSw; clear hSw; go_simp; with_reducible rfl)
  case rest =>
  refine wpAnyH_take (i := 14) (v := ?_) rfl (by kernel_rfl) (by kernel_rfl) (by kernel_rfl) (fun _ _ _ h => h) (Or.inl ⟨by kernel_rfl, ?hy⟩) hS0 ?rest
  case hy => (intro W hSw; clear hSw; go_simp; with_reducible rfl)
  case rest =>
  refine wpAnyH_take (i := 15) (v := ?_) rfl (by kernel_rfl) (by kernel_rfl) (by kernel_rfl) (fun _ _ _ h => h) (Or.inl ⟨by kernel_rfl, ?hy⟩) hS0 ?rest
  case hy => (intro W hSw; clear hSw; go_simp; with_reducible rfl)
  case rest =>
  refine wpAnyH_take (i := 16) (v := ?_) rfl (by kernel_rfl) (by kernel_rfl) (by kernel_rfl) (fun _ _ _ h => h) (Or.inl ⟨by kernel_rfl, ?hy⟩) hS0 ?rest
  case hy => (intro W hSw; clear hSw; go_simp; with_reducible rfl)
  case rest =>
  refine wpAnyH_take (i := 17) (v := ?_) rfl (by kernel_rfl) (by kernel_rfl) (by kernel_rfl) (fun _ _ _ h => h) (Or.inl ⟨by kernel_rfl, ?hy⟩) hS0 ?rest
  case hy => (intro W hSw; obtain ⟨b_, f_, he_, c0, c1, c2, cl⟩ := HC.out W (below_trans HBk.out hSw); cases he_; clear hSw; go_simp; with_reducible rfl)
  case rest =>
  try go_simp
  refine wpAnyH_ready (rs := [18, 22]) (by kernel_rfl) (by simp) ?_
  refine AllReadyH.cons rfl (fun K hK => ?_) (AllReadyH.cons rfl (fun K hK => ?_) (AllReadyH.nil))
  · skip
    go_simp
    refine (HCM.out _ (below_trans HBk.out hS0)).mono ?_
    rintro e w5 ⟨rfl, hb⟩
    have HBw5 := Lib.hid (below_trans hS0 hb)
    go_simp
    refine hK.out _ _ HBw5.out (fun hS1 => ?_)
    clear hK K hb
    refine wpAnyH_take (i := 19) (v := ?_) rfl (by kernel_rfl) (by kernel_rfl) (by kernel_rfl) (fun _ _ _ h => h) (Or.inl ⟨by kernel_rfl, ?hy⟩) hS1 ?rest
    case hy => (intro W hSw; clear hSw; go_simp; with_reducible rfl)
    case rest =>
    refine wpAnyH_take (i := 20) (v := ?_) rfl (by kernel_rfl) (by kernel_rfl) (by kernel_rfl) (fun _ _ _ h => h) (Or.inl ⟨by kernel_rfl, ?hy⟩) hS1 ?rest
    case hy => (intro W hSw; clear hSw; go_simp; with_reducible rfl)
    case rest =>
    refine wpAnyH_take (i := 21) (v := ?_) rfl (by kernel_rfl) (by kernel_rfl) (by kernel_rfl) (fun _ _ _ h => h) (Or.inl ⟨by kernel_rfl, ?hy⟩) hS1 ?rest
    case hy => (intro W hSw; clear hSw; go_simp; with_reducible rfl)
    case rest =>
    refine wpAnyH_ready (rs := [22]) (by kernel_rfl) (by simp) ?_
    refine AllReadyH.cons rfl (fun K hK => ?_) (AllReadyH.nil)
    go_simp
    refine hK.out _ _ (below_alloc HBw5.out _) (fun hS2 => ?_)
    clear hK K
    refine wpAnyH_ready (rs := [23]) (by kernel_rfl) (by simp) ?_
    refine AllReadyH.cons rfl (fun K hK => ?_) (AllReadyH.nil)
    go_simp
    refine hK.out _ _ (below_alloc HBw5.out _) (fun hS3 => ?_)
    clear hK K
    refine wpAnyH_take (i := 24) (v := ?_) rfl (by kernel_rfl) (by kernel_rfl) (by kernel_rfl) (fun _ _ _ h => h) (Or.inl ⟨by kernel_rfl, ?hy⟩) hS3 ?rest
    case hy => (intro W hSw; clear hSw; go_simp; with_reducible rfl)
    case rest =>
    refine wpAnyH_done (by kernel_rfl) ?_ _
    have hblk : Blk (w5.alloc (.cells #[.string ca, .string cb] 29)) w5.heap.size 29 #[.string ca, .string cb] := Blk.new _ _ _ _ rfl
    have hbel := below_alloc HBw5.out (.cells #[.string ca, .string cb] 29)
    generalize w5.alloc (.cells #[.string ca, .string cb] 29) = w6 at *
    generalize w5.heap.size = gw6 at *
    have HCw6 := Lib.hid hblk
    have HBw6 := Lib.hid hbel
    clear hblk hbel hS3
    have HV6 := Lib.hid (HV.out.below HBw6.out)
    have HBX6 := Lib.hid HV6.out.b
    go_wp2_with fail
    refine wp_region_held_drew (S := fun W => Below w6.heap.size w6 W) (by kernel_rfl) ((Below.refl _ _).drew) (fun hS0 => ?_)
    refine wpAnyH_take (i := 0) (v := ?_) rfl (by kernel_rfl) (by kernel_rfl) (by kernel_rfl) (fun _ _ _ h => h) (Or.inl ⟨by kernel_rfl, ?hy⟩) hS0 ?rest
    case hy => (intro W hSw; clear hSw; go_simp; with_reducible rfl)
    case rest =>
    refine wpAnyH_take (i := 1) (v := ?_) rfl (by kernel_rfl) (by kernel_rfl) (by kernel_rfl) (fun _ _ _ h => h) (Or.inl ⟨by kernel_rfl, ?hy⟩) hS0 ?rest
    case hy => (intro W hSw; clear hSw; go_simp; with_reducible rfl)
    case rest =>
    refine wpAnyH_take (i := 2) (v := ?_) rfl (by kernel_rfl) (by kernel_rfl) (by kernel_rfl) (fun _ _ _ h => h) (Or.inl ⟨by kernel_rfl, ?hy⟩) hS0 ?rest
    case hy => (intro W hSw; clear hSw; go_simp; with_reducible rfl)
    case rest =>
    refine wpAnyH_take (i := 3) (v := ?_) rfl (by kernel_rfl) (by kernel_rfl) (by kernel_rfl) (fun _ _ _ h => h) (Or.inl ⟨by kernel_rfl, ?hy⟩) hS0 ?rest
    case hy => (intro W hSw; clear hSw; go_simp; with_reducible rfl)
    case rest =>
    refine wpAnyH_take (i := 4) (v := ?_) rfl (by kernel_rfl) (by kernel_rfl) (by kernel_rfl) (fun _ _ _ h => h) (Or.inl ⟨by kernel_rfl, ?hy⟩) hS0 ?rest
    case hy => (intro W hSw; obtain ⟨b_, f_, he_, c0, c1, c2, cl⟩ := HC.out W (below_trans HBX6.out hSw); cases he_; clear hSw; go_simp; with_reducible rfl)
    case rest =>
    refine wpAnyH_take (i := 5) (v := ?_) rfl (by kernel_rfl) (by kernel_rfl) (by kernel_rfl) (fun _ _ _ h => h) (Or.inl ⟨by kernel_rfl, ?hy⟩) hS0 ?rest
    case hy => (intro W hSw; clear hSw; go_simp; with_reducible rfl)
    case rest =>
    try go_simp
    refine wpAnyH_take (i := 6) (v := ?_) rfl (by kernel_rfl) (by kernel_rfl) (by kernel_rfl) (fun _ _ _ h => h) (Or.inl ⟨by kernel_rfl, ?hy⟩) hS0 ?rest
    case hy => (intro W hSw; clear hSw; go_simp; with_reducible rfl)
    case rest =>
    refine wpAnyH_take (i := 7) (v := ?_) rfl (by kernel_rfl) (by kernel_rfl) (by kernel_rfl) (fun _ _ _ h => h) (Or.inl ⟨by kernel_rfl, ?hy⟩) hS0 ?rest
    case hy => (intro W hSw; clear hSw; go_simp; with_reducible rfl)
    case rest =>
    refine wpAnyH_take (i := 8) (v := ?_) rfl (by kernel_rfl) (by kernel_rfl) (by kernel_rfl) (fun _ _ _ h => h) (Or.inl ⟨by kernel_rfl, ?hy⟩) hS0 ?rest
    case hy => (intro W hSw; clear hSw; go_simp; with_reducible rfl)
    case rest =>
    refine wpAnyH_take (i := 9) (v := ?_) rfl (by kernel_rfl) (by kernel_rfl) (by kernel_rfl) (fun _ _ _ h => h) (Or.inl ⟨by kernel_rfl, ?hy⟩) hS0 ?rest
    case hy => (intro W hSw; obtain ⟨b_, f_, he_, c0, c1, c2, cl⟩ := HC.out W (below_trans HBX6.out hSw); cases he_; clear hSw; go_simp; with_reducible rfl)
    case rest =>
    refine wpAnyH_take (i := 10) (v := ?_) rfl (by kernel_rfl) (by kernel_rfl) (by kernel_rfl) (fun _ _ _ h => h) (Or.inl ⟨by kernel_rfl, ?hy⟩) hS0 ?rest
    case hy => (intro W hSw; clear hSw; go_simp; with_reducible rfl)
    case rest =>
    refine wpAnyH_ready (rs := [11, 15]) (by kernel_rfl) (by simp) ?_
    refine AllReadyH.cons rfl (fun K hK => ?_) (AllReadyH.cons rfl (fun K hK => ?_) (AllReadyH.nil))
    · skip
      go_simp
      refine (HOP.out _ (below_trans HBX6.out hS0)).mono ?_
      rintro e w7 ⟨o, rfl, hoo, hpo, hpc, hb⟩
      have HOO := Lib.hid (And.intro hoo hpc)
      have HPO := Lib.hid hpo
      clear hoo hpo hpc
      have HBw7 := Lib.hid (below_trans hS0 hb)
      go_simp
      refine hK.out _ _ HBw7.out (fun hS1 => ?_)
      clear hK K hb
      refine wpAnyH_take (i := 12) (v := ?_) rfl (by kernel_rfl) (by kernel_rfl) (by kernel_rfl) (fun _ _ _ h => h) (Or.inl ⟨by kernel_rfl, ?hy⟩) hS1 ?rest
      case hy => (intro W hSw; clear hSw; go_simp; with_reducible rfl)
      case rest =>
      try go_simp
      refine wpAnyH_take (i := 13) (v := ?_) rfl (by kernel_rfl) (by kernel_rfl) (by kernel_rfl) (fun _ _ _ h => h) (Or.inl ⟨by kernel_rfl, ?hy⟩) hS1 ?rest
      case hy => (intro W hSw; clear hSw; go_simp; with_reducible rfl)
      case rest =>
      refine wpAnyH_take (i := 14) (v := ?_) rfl (by kernel_rfl) (by kernel_rfl) (by kernel_rfl) (fun _ _ _ h => h) (Or.inl ⟨by kernel_rfl, ?hy⟩) hS1 ?rest
      case hy => (intro W hSw; clear hSw; go_simp; with_reducible rfl)
      case rest =>
      refine wpAnyH_ready (rs := [15]) (by kernel_rfl) (by simp) ?_
      refine AllReadyH.cons rfl (fun K hK => ?_) (AllReadyH.nil)
      go_simp
      refine hK.out _ _ (below_alloc HBw7.out _) (fun hS2 => ?_)
      clear hK K
      refine wpAnyH_ready (rs := [16]) (by kernel_rfl) (by simp) ?_
      refine AllReadyH.cons rfl (fun K hK => ?_) (AllReadyH.nil)
      go_simp
      refine hK.out _ _ (below_alloc HBw7.out _) (fun hS3 => ?_)
      clear hK K
      refine wpAnyH_take (i := 17) (v := ?_) rfl (by kernel_rfl) (by kernel_rfl) (by kernel_rfl) (fun _ _ _ h => h) (Or.inl ⟨by kernel_rfl, ?hy⟩) hS3 ?rest
      case hy => (intro W hSw; clear hSw; go_simp; with_reducible rfl)
      case rest =>
      refine wpAnyH_done (by kernel_rfl) ?_ _
      have hblk : Blk (w7.alloc (.cells #[.int .i64 o.ix, .int .i64 o.v, .string o.salt, .slice o.A o.p.length o.c] 32)) w7.heap.size 32 #[.int .i64 o.ix, .int .i64 o.v, .string o.salt, .slice o.A o.p.length o.c] := Blk.new _ _ _ _ rfl
      have hbel := below_alloc HBw7.out (.cells #[.int .i64 o.ix, .int .i64 o.v, .string o.salt, .slice o.A o.p.length o.c] 32)
      have hpat := HPO.out.below (below_alloc (Below.refl _ _) (.cells #[.int .i64 o.ix, .int .i64 o.v, .string o.salt, .slice o.A o.p.length o.c] 32))
      generalize w7.alloc (.cells #[.int .i64 o.ix, .int .i64 o.v, .string o.salt, .slice o.A o.p.length o.c] 32) = w8 at *
      generalize w7.heap.size = gw8 at *
      have HCw8 := Lib.hid hblk
      have HBw8 := Lib.hid hbel
      have HPw8 := Lib.hid hpat
      clear hblk hbel hS3 hpat
      have HV8 := Lib.hid (HV6.out.below HBw8.out)
      have HBX8 := Lib.hid HV8.out.b
      have HC68 : Hid (Blk w8 gw6 29 #[.string ca, .string cb]) := Lib.hid ((HBw8.out.block _ HCw6.out.lt).trans HCw6.out)
      clear HCM HOP
      have HFAL : Hid ((b1 = false ∨ b2 = false) → l.all (okK l.length need i) = false) := Lib.hid (fun h => by
        refine all_false_of _ l k x HX.out ?_
        cases b1 with
        | false => unfold okK; rw [HB1.out]; rfl
        | true =>
          rcases h with h | h
          · cases h
          · have h1 := HB1.out
            have h2 := HB2.out
            rw [h] at h2
            unfold dvB at h1
            rw [Bool.and_eq_true] at h1
            rw [h1.1, Bool.true_and] at h2
            unfold okK
            rw [h2, Bool.and_false])
      by_cases hbb : b1 = true ∧ b2 = true
      case neg =>
        have hal := HFAL.out (by cases b1 <;> cases b2 <;> simp_all)
        have HALL := Lib.hid hal
        clear hal
        obtain ⟨CA, cc, rfl, -, -, -⟩ := Rd.of_own HV8.out.rc
        obtain ⟨OA, oc, rfl, -, -, -⟩ := Rd.of_own HV8.out.ro
        obtain ⟨KA, kc, rfl, -, -, -⟩ := Rd.of_own HV8.out.rk
        have n0 := HV8.out.n.of_cell (i := 0) rfl
        have n1 := HV8.out.n.of_cell (i := 1) rfl
        have n2 := HV8.out.n.of_cell (i := 2) rfl
        have nl := HV8.out.n.lt
        have HBK := Lib.hid HV8.out.r
        have hbk := Blk.rowK HBK.out #[.slice CA k cc, .slice OA k oc, .slice KA k kc]
        have hbel := below_setRow HBX8.out (Nat.le_refl _) #[.slice CA k cc, .slice OA k oc, .slice KA k kc]
        obtain ⟨wz, hwz⟩ : ∃ wz, w8.setRow w.heap.size #[.slice CA k cc, .slice OA k oc, .slice KA k kc] = wz := ⟨_, rfl⟩
        rw [hwz] at hbk hbel
        have cc0 := hbk.of_cell (i := 0) rfl
        have cc1 := hbk.of_cell (i := 1) rfl
        have cc2 := hbk.of_cell (i := 2) rfl
        have hlz := hbk.lt
        have HBEL := Lib.hid hbel
        clear hbk hbel
        have hbb' : b1 = false ∨ (b1 = true ∧ b2 = false) := by cases b1 <;> cases b2 <;> simp_all
        clear hbb
        rcases hbb' with rfl | ⟨rfl, rfl⟩
        · have q1 : 1 = e1 := HE1.out
          subst q1
          go_wp2_with (refine wpList_store_row rfl 69 (.tmp 6) (.tmp 67) rfl w.heap.size #[.slice CA k cc, .slice OA k oc, .slice KA k kc] rfl rfl 69 #[.slice none 0 0, .slice none 0 0, .slice none 0 0] HBK.out size_nt rfl (by simp [Value.oneCell']) ?_)
          try rw [hwz]
          go_wp2
          exact bodyPost_ret (v := .tuple #[.agg #[.slice CA k cc, .slice OA k oc, .slice KA k kc], .bool false]) (by simp [results, Tryz.results34, go_sem, cc0, cc1, cc2, hlz]) rfl ⟨HBEL.out, .inl ⟨HALL.out, _, _, _, _, _, _, _, rfl⟩⟩
        · have q1 : 0 = e1 := HE1.out
          have q2 : 1 = e2 := HE2.out
          subst q1 q2
          go_wp2_with (refine wpList_store_row rfl 69 (.tmp 6) (.tmp 67) rfl w.heap.size #[.slice CA k cc, .slice OA k oc, .slice KA k kc] rfl rfl 69 #[.slice none 0 0, .slice none 0 0, .slice none 0 0] HBK.out size_nt rfl (by simp [Value.oneCell']) ?_)
          try rw [hwz]
          go_wp2
          exact bodyPost_ret (v := .tuple #[.agg #[.slice CA k cc, .slice OA k oc, .slice KA k kc], .bool false]) (by simp [results, Tryz.results34, go_sem, cc0, cc1, cc2, hlz]) rfl ⟨HBEL.out, .inl ⟨HALL.out, _, _, _, _, _, _, _, rfl⟩⟩
      case pos =>
      obtain ⟨rfl, rfl⟩ := hbb
      have q1 : 0 = e1 := HE1.out
      have q2 : 0 = e2 := HE2.out
      subst q1 q2
      have HOK : Hid (okK l.length need i x = true) := Lib.hid (by
        have h2 := HB2.out
        rw [Bool.and_eq_true] at h2
        unfold okK
        rw [HB1.out, h2.2]; rfl)
      have HKE : Hid (∀ j, j < l.length → ∀ W, Below w.heap.size w W → Calls Tryz.prog 21 #[.slice x.SA x.seeds.length x.sc, .int .i64 need, .int .i64 l.length, .slice x.RA x.random.length x.rc, .int .i64 i, .int .i64 j] W fun e w' => ∃ q : Kp, e = .returned (.tuple #[.agg #[.int .i64 q.ix, .int .i64 q.s.1, .int .i64 q.s.2, .slice q.A q.p.length q.c], .int .i64 0]) ∧ (∃ A c, q = kpOf x need.toNat l.length i.toNat j A c) ∧ PathIn w' q.A q.p ∧ Below W.heap.size W w') := Lib.hid (fun j hj W hW => by
        have h := HIX.out W hW
        have hdv := dvB_nosalt HB1.out
        obtain ⟨n', m', hn, hm, -⟩ := DivOk.of hdv
        have h2 := HB2.out
        rw [Bool.and_eq_true] at h2
        have hi := of_decide_eq_true h2.2
        have hne : ((need.toNat : Nat) : Int) = need := by omega
        have hie : ((i.toNat : Nat) : Int) = i := by omega
        have := kkeep_ok x.SA x.sc x.seeds need.toNat l.length x.RA x.rc x.random i.toNat j W h.s h.r h.rc h.rcm (by rw [hne]; exact hdv) (by omega) hj (HT.out W hW)
        rw [hne, hie] at this
        refine this.mono ?_
        rintro e w' ⟨A', c', rfl, hc, hp, hb⟩
        refine ⟨kpOf x need.toNat l.length i.toNat j A' c', ?_, ⟨A', c', rfl⟩, hp, hb⟩
        unfold kpOf
        rw [hie])
      clear HFAL
      go_wp2_with fail
      go_loopw [14, 15, 16, 17] (fun u14 u15 u16 u17 wr => ∃ (j : Nat) (ls : List Kp), j ≤ l.length ∧ u15 = .int .i64 j ∧ Below w8.heap.size w8 wr ∧ wr.ownsRow w8.heap.size 50 4 u14 j (ls.flatMap kpC) ∧ KpsOk x need.toNat l.length i.toNat j ls ∧ ∀ k, k ∈ ls → PathIn wr k.A k.p) (fun u14 u15 u16 u17 _ => l.length - (intOf u15).toNat)
      case atStart => exact ⟨0, [], Nat.zero_le _, rfl, Below.refl _ _, World.ownsRow_nil _ _ _ _, ⟨rfl, fun q hq => (by omega)⟩, fun k hk => (by cases hk)⟩
      case round =>
      obtain ⟨j, ls, hj, rfl, hb8, hrow, hkps, hpat⟩ := hrel
      have HB8q := Lib.hid hb8
      have HBXq := Lib.hid (below_trans HBX8.out hb8)
      have HRq := Lib.hid hrow
      have HKS := Lib.hid hkps
      have HPS := Lib.hid hpat
      clear hb8 hrow hkps hpat
      by_cases hlj : j < l.length
      case neg =>
        obtain rfl : j = l.length := by omega
        have hv := HV8.out.below HB8q.out
        obtain ⟨AS, cS, rfl, -, -, hrS⟩ := Rd.of_own HRq.out
        have HM0 : Hid (Mid w w0 wr uc uo uk k k k (((l.take k).map (cmK l.length need)).flatMap cmC) (os.flatMap ogC) (ks.flatMap kwC) os ks o ⟨AS, cS, ls⟩) := Lib.hid ⟨hv.b, hv.r, hv.n, hv.rc, hv.ro, hv.rk, hv.mem, HPw8.out.below HB8q.out, ⟨by unfold RowOf; rw [HKS.out.1]; exact hrS, own_typed HRq.out, HPS.out⟩⟩
        clear hv hrS
        have HCq : Hid (Blk wr gw6 29 #[.string ca, .string cb]) := Lib.hid ((HB8q.out.block _ HC68.out.lt).trans HC68.out)
        have HGq : Hid (Blk wr gw8 32 #[.int .i64 o.ix, .int .i64 o.v, .string o.salt, .slice o.A o.p.length o.c]) := Lib.hid ((HB8q.out.block _ HCw8.out.lt).trans HCw8.out)
        have n0 := HM0.out.n.of_cell (i := 0) rfl
        have nl := HM0.out.n.lt
        have c0 := HCq.out.of_cell (i := 0) rfl
        have c1 := HCq.out.of_cell (i := 1) rfl
        have cl := HCq.out.lt
        have hsz := HM0.out.b.size
        go_wp2_with (at_builtin; refine wpList_app _ rfl (.tmp 101) (.tmp 103) 55 55 rfl w0.heap.size 29 29 ic _ 2 32 Tryz.underlying55 Tryz.underlying55 HIC.out.1 HIC.out.2.1 HIC.out.2.2.1 HIC.out.2.2.2 rfl (by omega) _ k _ rfl (HM0.out.rc.alloc _) _ 1 1 [.string ca, .string cb] rfl (Rd_new wr #[.string ca, .string cb] _ 2 1 _ rfl rfl) (by simp [Value.oneCell']) (by simp only [maxLen]; omega) (by omega) (by have := HZ0.out; simp; omega) ?_)
        try clear n0
        try clear nl
        try clear c0
        try clear c1
        try clear cl
        try clear hsz
        intro v0 w11 hown0 hg0
        obtain ⟨B0, b0, rfl, -, -, -⟩ := Rd.of_own hown0
        have M1 := HM0.out.below (below_alloc (Below.refl _ _) (.cells #[.string ca, .string cb] 29))
        have hn1 := M1.blkC HZ0.out hg0
        have M2 := M1.stepC HZ0.out hown0 hg0
        have G1 := HGq.out.alloc (.cells #[.string ca, .string cb] 29)
        have G2 := (step_typed M1.rc hg0 hn1 (T := 32) (by decide) (by decide) 0 (.slice B0 (k + 1) b0) _ _ G1).trans G1
        have d0 := hn1.of_cell (i := 0) rfl
        have d1 := hn1.frozen 0
        have d2 := hn1.lt
        obtain ⟨w12, hw12⟩ : ∃ w12, w11.setCell ⟨w.heap.size + 1, 0, none⟩ (.slice B0 (k + 1) b0) = w12 := ⟨_, rfl⟩
        rw [hw12] at M2 G2
        have HM2 := Lib.hid M2
        have HGq2 : Hid (Blk _ _ 32 _) := Lib.hid G2
        clear G1 G2
        clear M1 M2 hn1 hown0 hg0
        have n1 := HM2.out.n.of_cell (i := 1) rfl
        have nl := HM2.out.n.lt
        have g0 := HGq2.out.of_cell (i := 0) rfl
        have g1 := HGq2.out.of_cell (i := 1) rfl
        have g2 := HGq2.out.of_cell (i := 2) rfl
        have g3 := HGq2.out.of_cell (i := 3) rfl
        have gl := HGq2.out.lt
        have hsz := HM2.out.b.size
        go_wp2_with (at_builtin; refine wpList_app _ rfl (.tmp 107) (.tmp 109) 56 56 rfl w0.heap.size 32 32 io _ 4 56 Tryz.underlying56 Tryz.underlying56 HIO.out.1 HIO.out.2.1 HIO.out.2.2.1 HIO.out.2.2.2 rfl (by omega) _ k _ rfl (HM2.out.ro.alloc _) _ 1 1 [.int .i64 o.ix, .int .i64 o.v, .string o.salt, .slice o.A o.p.length o.c] rfl (Rd_new w12 #[.int .i64 o.ix, .int .i64 o.v, .string o.salt, .slice o.A o.p.length o.c] _ 4 1 _ rfl rfl) (by simp [Value.oneCell']) (by simp only [maxLen]; omega) (by omega) (by have := HZ0.out; simp; omega) ?_)
        try clear n1
        try clear nl
        try clear g0
        try clear g1
        try clear g2
        try clear g3
        try clear gl
        try clear hsz
        try clear d0
        try clear d1
        try clear d2
        try clear hw12
        intro v1 w13 hown1 hg1
        obtain ⟨B1, b1, rfl, -, -, -⟩ := Rd.of_own hown1
        have M1 := HM2.out.below (below_alloc (Below.refl _ _) (.cells #[.int .i64 o.ix, .int .i64 o.v, .string o.salt, .slice o.A o.p.length o.c] 32))
        have hn1 := M1.blkO HZ0.out hg1
        have M2 := M1.stepO HZ0.out hown1 hg1
        have d0 := hn1.of_cell (i := 1) rfl
        have d1 := hn1.frozen 1
        have d2 := hn1.lt
        obtain ⟨w14, hw14⟩ : ∃ w14, w13.setCell ⟨w.heap.size + 1, 1, none⟩ (.slice B1 (k + 1) b1) = w14 := ⟨_, rfl⟩
        rw [hw14] at M2
        have HM4 := Lib.hid M2
        clear M1 M2 hn1 hown1 hg1
        have n2 := HM4.out.n.of_cell (i := 2) rfl
        have nl := HM4.out.n.lt
        have hsz := HM4.out.b.size
        go_wp2_with (at_builtin; refine wpList_app _ rfl (.tmp 113) (.tmp 115) 57 57 rfl w0.heap.size 33 33 ik _ 1 24 Tryz.underlying57 Tryz.underlying57 HIK.out.1 HIK.out.2.1 HIK.out.2.2.1 HIK.out.2.2.2 rfl (by omega) _ k _ rfl (HM4.out.rk.alloc _) _ 1 1 [.slice AS l.length cS] rfl (Rd_new w14 #[.slice AS l.length cS] _ 1 1 _ rfl rfl) (by simp [Value.oneCell']) (by simp only [maxLen]; omega) (by omega) (by have := HZ0.out; simp; omega) ?_)
        try clear n2
        try clear nl
        try clear hsz
        try clear d0
        try clear d1
        try clear d2
        try clear hw14
        intro v2 w15 hown2 hg2
        obtain ⟨B2, b2, rfl, -, -, -⟩ := Rd.of_own hown2
        have M1 := HM4.out.below (below_alloc (Below.refl _ _) (.cells #[.slice AS l.length cS] 33))
        have hn1 := M1.blkK HZ0.out hg2
        have M2 := M1.stepK HZ0.out hown2 hg2
        have d0 := hn1.of_cell (i := 2) rfl
        have d1 := hn1.frozen 2
        have d2 := hn1.lt
        obtain ⟨w16, hw16⟩ : ∃ w16, w15.setCell ⟨w.heap.size + 1, 2, none⟩ (.slice B2 (k + 1) b2) = w16 := ⟨_, rfl⟩
        rw [hw16] at M2
        have HM6 := Lib.hid M2
        clear M1 M2 hn1 hown2 hg2
        have HN : Hid (NightInv l need i w w0 w16 (k + 1) (.slice B0 (k + 1) b0) (.slice B1 (k + 1) b1) (.slice B2 (k + 1) b2) (os ++ [o]) (ks ++ [⟨AS, cS, ls⟩])) := Lib.hid (HV8.out.next (by first | (rw [List.map_take, HCAB.out.1, HCAB.out.2]; exact HM6.out) | (rw [List.map_take, HCAB.out.1, HCAB.out.2, HKS.out.1]; exact HM6.out)) HX.out (by first | exact HOO.out.1 rfl | exact HOO.out.1 trivial) HKS.out HOK.out HOO.out.2)
        clear HM6 HM4 HM2 HM0
        go_wp2
        go_roundw
        case rel => exact ⟨k + 1, _, _, _, os ++ [o], ks ++ [⟨AS, cS, ls⟩], by omega, by go_num, HN.out⟩
        case measure => simp [intOf]; omega
      case pos =>
      have hji : (j : Int) < (l.length : Int) := by omega
      go_wp2_with fail
      refine wp_region_held_drew (S := fun W => Below wr.heap.size wr W) (by kernel_rfl) ((Below.refl _ _).drew) (fun hS0 => ?_)
      refine wpAnyH_take (i := 0) (v := ?_) rfl (by kernel_rfl) (by kernel_rfl) (by kernel_rfl) (fun _ _ _ h => h) (Or.inl ⟨by kernel_rfl, ?hy⟩) hS0 ?rest
      case hy => (intro W hSw; clear hSw; go_simp; with_reducible rfl)
      case rest =>
      refine wpAnyH_take (i := 1) (v := ?_) rfl (by kernel_rfl) (by kernel_rfl) (by kernel_rfl) (fun _ _ _ h => h) (Or.inl ⟨by kernel_rfl, ?hy⟩) hS0 ?rest
      case hy => (intro W hSw; clear hSw; go_simp; with_reducible rfl)
      case rest =>
      refine wpAnyH_take (i := 2) (v := ?_) rfl (by kernel_rfl) (by kernel_rfl) (by kernel_rfl) (fun _ _ _ h => h) (Or.inl ⟨by kernel_rfl, ?hy⟩) hS0 ?rest
      case hy => (intro W hSw; clear hSw; go_simp; with_reducible rfl)
      case rest =>
      refine wpAnyH_take (i := 3) (v := ?_) rfl (by kernel_rfl) (by kernel_rfl) (by kernel_rfl) (fun _ _ _ h => h) (Or.inl ⟨by kernel_rfl, ?hy⟩) hS0 ?rest
      case hy => (intro W hSw; clear hSw; go_simp; with_reducible rfl)
      case rest =>
      refine wpAnyH_take (i := 4) (v := ?_) rfl (by kernel_rfl) (by kernel_rfl) (by kernel_rfl) (fun _ _ _ h => h) (Or.inl ⟨by kernel_rfl, ?hy⟩) hS0 ?rest
      case hy => (intro W hSw; obtain ⟨b_, f_, he_, c0, c1, c2, cl⟩ := HC.out W (below_trans HBXq.out hSw); cases he_; clear hSw; go_simp; with_reducible rfl)
      case rest =>
      refine wpAnyH_take (i := 5) (v := ?_) rfl (by kernel_rfl) (by kernel_rfl) (by kernel_rfl) (fun _ _ _ h => h) (Or.inl ⟨by kernel_rfl, ?hy⟩) hS0 ?rest
      case hy => (intro W hSw; clear hSw; go_simp; with_reducible rfl)
      case rest =>
      try go_simp
      refine wpAnyH_take (i := 6) (v := ?_) rfl (by kernel_rfl) (by kernel_rfl) (by kernel_rfl) (fun _ _ _ h => h) (Or.inl ⟨by kernel_rfl, ?hy⟩) hS0 ?rest
      case hy => (intro W hSw; clear hSw; go_simp; with_reducible rfl)
      case rest =>
      refine wpAnyH_take (i := 7) (v := ?_) rfl (by kernel_rfl) (by kernel_rfl) (by kernel_rfl) (fun _ _ _ h => h) (Or.inl ⟨by kernel_rfl, ?hy⟩) hS0 ?rest
      case hy => (intro W hSw; clear hSw; go_simp; with_reducible rfl)
      case rest =>
      refine wpAnyH_take (i := 8) (v := ?_) rfl (by kernel_rfl) (by kernel_rfl) (by kernel_rfl) (fun _ _ _ h => h) (Or.inl ⟨by kernel_rfl, ?hy⟩) hS0 ?rest
      case hy => (intro W hSw; clear hSw; go_simp; with_reducible rfl)
      case rest =>
      refine wpAnyH_take (i := 9) (v := ?_) rfl (by kernel_rfl) (by kernel_rfl) (by kernel_rfl) (fun _ _ _ h => h) (Or.inl ⟨by kernel_rfl, ?hy⟩) hS0 ?rest
      case hy => (intro W hSw; clear hSw; go_simp; with_reducible rfl)
      case rest =>
      refine wpAnyH_take (i := 10) (v := ?_) rfl (by kernel_rfl) (by kernel_rfl) (by kernel_rfl) (fun _ _ _ h => h) (Or.inl ⟨by kernel_rfl, ?hy⟩) hS0 ?rest
      case hy => (intro W hSw; clear hSw; go_simp; with_reducible rfl)
      case rest =>
      refine wpAnyH_take (i := 11) (v := ?_) rfl (by kernel_rfl) (by kernel_rfl) (by kernel_rfl) (fun _ _ _ h => h) (Or.inl ⟨by kernel_rfl, ?hy⟩) hS0 ?rest
      case hy => (intro W hSw; clear hSw; go_simp; with_reducible rfl)
      case rest =>
      try go_simp
      refine wpAnyH_take (i := 12) (v := ?_) rfl (by kernel_rfl) (by kernel_rfl) (by kernel_rfl) (fun _ _ _ h => h) (Or.inl ⟨by kernel_rfl, ?hy⟩) hS0 ?rest
      case hy => (intro W hSw; obtain ⟨b_, f_, he_, c0, c1, c2, cl⟩ := HC.out W (below_trans HBXq.out hSw); cases he_; clear hSw; go_simp; with_reducible rfl)
      case rest =>
      refine wpAnyH_take (i := 13) (v := ?_) rfl (by kernel_rfl) (by kernel_rfl) (by kernel_rfl) (fun _ _ _ h => h) (Or.inl ⟨by kernel_rfl, ?hy⟩) hS0 ?rest
      case hy => (intro W hSw; clear hSw; go_simp; with_reducible rfl)
      case rest =>
      refine wpAnyH_take (i := 14) (v := ?_) rfl (by kernel_rfl) (by kernel_rfl) (by kernel_rfl) (fun _ _ _ h => h) (Or.inl ⟨by kernel_rfl, ?hy⟩) hS0 ?rest
      case hy => (intro W hSw; clear hSw; go_simp; with_reducible rfl)
      case rest =>
      refine wpAnyH_ready (rs := [15, 19]) (by kernel_rfl) (by simp) ?_
      refine AllReadyH.cons rfl (fun K hK => ?_) (AllReadyH.cons rfl (fun K hK => ?_) (AllReadyH.nil))
      · skip
        go_simp
        refine (HKE.out j hlj _ (below_trans HBXq.out hS0)).mono ?_
        rintro e w9 ⟨q, rfl, hqq, hpq, hb⟩
        have HQQ := Lib.hid hqq
        have HPQ := Lib.hid hpq
        clear hqq hpq
        have HBw9 := Lib.hid (below_trans hS0 hb)
        go_simp
        refine hK.out _ _ HBw9.out (fun hS1 => ?_)
        clear hK K hb
        refine wpAnyH_take (i := 16) (v := ?_) rfl (by kernel_rfl) (by kernel_rfl) (by kernel_rfl) (fun _ _ _ h => h) (Or.inl ⟨by kernel_rfl, ?hy⟩) hS1 ?rest
        case hy => (intro W hSw; clear hSw; go_simp; with_reducible rfl)
        case rest =>
        refine wpAnyH_take (i := 17) (v := ?_) rfl (by kernel_rfl) (by kernel_rfl) (by kernel_rfl) (fun _ _ _ h => h) (Or.inl ⟨by kernel_rfl, ?hy⟩) hS1 ?rest
        case hy => (intro W hSw; clear hSw; go_simp; with_reducible rfl)
        case rest =>
        refine wpAnyH_take (i := 18) (v := ?_) rfl (by kernel_rfl) (by kernel_rfl) (by kernel_rfl) (fun _ _ _ h => h) (Or.inl ⟨by kernel_rfl, ?hy⟩) hS1 ?rest
        case hy => (intro W hSw; clear hSw; go_simp; with_reducible rfl)
        case rest =>
        try go_simp
        refine wpAnyH_ready (rs := [19]) (by kernel_rfl) (by simp) ?_
        refine AllReadyH.cons rfl (fun K hK => ?_) (AllReadyH.nil)
        go_simp
        refine hK.out _ _ (below_alloc HBw9.out _) (fun hS2 => ?_)
        clear hK K
        refine wpAnyH_ready (rs := [20]) (by kernel_rfl) (by simp) ?_
        refine AllReadyH.cons rfl (fun K hK => ?_) (AllReadyH.nil)
        go_simp
        refine hK.out _ _ (below_alloc HBw9.out _) (fun hS3 => ?_)
        clear hK K
        refine wpAnyH_take (i := 21) (v := ?_) rfl (by kernel_rfl) (by kernel_rfl) (by kernel_rfl) (fun _ _ _ h => h) (Or.inl ⟨by kernel_rfl, ?hy⟩) hS3 ?rest
        case hy => (intro W hSw; clear hSw; go_simp; with_reducible rfl)
        case rest =>
        refine wpAnyH_done (by kernel_rfl) ?_ _
        have hblk : Blk (w9.alloc (.cells #[.int .i64 q.ix, .int .i64 q.s.1, .int .i64 q.s.2, .slice q.A q.p.length q.c] 50)) w9.heap.size 50 #[.int .i64 q.ix, .int .i64 q.s.1, .int .i64 q.s.2, .slice q.A q.p.length q.c] := Blk.new _ _ _ _ rfl
        have hbel := below_alloc HBw9.out (.cells #[.int .i64 q.ix, .int .i64 q.s.1, .int .i64 q.s.2, .slice q.A q.p.length q.c] 50)
        have hpat := HPQ.out.below (below_alloc (Below.refl _ _) (.cells #[.int .i64 q.ix, .int .i64 q.s.1, .int .i64 q.s.2, .slice q.A q.p.length q.c] 50))
        generalize w9.alloc (.cells #[.int .i64 q.ix, .int .i64 q.s.1, .int .i64 q.s.2, .slice q.A q.p.length q.c] 50) = w10 at *
        generalize w9.heap.size = gw10 at *
        have HCw10 := Lib.hid hblk
        have HBw10 := Lib.hid hbel
        have HPw10 := Lib.hid hpat
        clear hblk hbel hS3 hpat
        have HRw10 := Lib.hid (row_below HRq.out HBw10.out)
        have f0 := HCw10.out.of_cell (i := 0) rfl
        have f1 := HCw10.out.of_cell (i := 1) rfl
        have f2 := HCw10.out.of_cell (i := 2) rfl
        have f3 := HCw10.out.of_cell (i := 3) rfl
        have fl := HCw10.out.lt
        have hsz : w8.heap.size ≤ w10.heap.size := Nat.le_trans HB8q.out.size HBw10.out.size
        go_wp2_with (at_builtin; refine wpList_app _ rfl (.tmp 96) (.tmp 98) 33 33 rfl w8.heap.size 50 50 ip _ 4 48 Tryz.underlying33 Tryz.underlying33 HIP.out.1 HIP.out.2.1 HIP.out.2.2.1 HIP.out.2.2.2 rfl (by omega) _ j _ rfl (HRw10.out.alloc _) _ 1 1 [.int .i64 q.ix, .int .i64 q.s.1, .int .i64 q.s.2, .slice q.A q.p.length q.c] rfl (Rd_new w10 #[.int .i64 q.ix, .int .i64 q.s.1, .int .i64 q.s.2, .slice q.A q.p.length q.c] _ 4 1 _ rfl rfl) (by simp [Value.oneCell']) (by simp only [maxLen]; omega) (by omega) (by simp; omega) ?_)
        intro v1 w11 hown hg
        have HB11 : Hid (Below w8.heap.size w8 w11) := Lib.hid ((below_alloc (below_trans HB8q.out HBw10.out) _).grown hg (by simp; omega) (fun j hj => (HRw10.out.lt j hj).1))
        have HP11 : Hid (∀ k, k ∈ ls ++ [q] → PathIn w11 k.A k.p) := Lib.hid (fun k hk => by
          have h1 : PathIn w10 k.A k.p := by
            rcases List.mem_append.1 hk with h | h
            · exact (HPS.out k h).below HBw10.out
            · rw [List.mem_singleton.1 h]; exact HPw10.out
          exact (h1.below (below_alloc (Below.refl _ _) _)).keep (fun a cs _ hcs => grown_typed (HRw10.out.alloc _) hg (by decide) _ cs hcs))
        have e5 : ls.flatMap kpC ++ [.int .i64 q.ix, .int .i64 q.s.1, .int .i64 q.s.2, .slice q.A q.p.length q.c] = (ls ++ [q]).flatMap kpC := by rw [List.flatMap_append]; rfl
        rw [e5] at hown
        have HO11 := Lib.hid hown
        clear hown hg e5 f0 f1 f2 f3 fl
        go_wp2
        go_roundw
        case rel => exact ⟨j + 1, ls ++ [q], by omega, by go_num, HB11.out, HO11.out, HKS.out.snoc HQQ.out, HP11.out⟩
        case measure => simp [intOf]; omega
      · skip
        go_simp
        refine hK.out _ _ (below_alloc (Below.refl _ _).drew _) (fun hS2 => ?_)
        have HGA : Hid (Blk ((World.drew wr).alloc (.cells #[.int .i64 0, .int .i64 0, .int .i64 0, .slice none 0 0] 50)) wr.heap.size 50 #[.int .i64 0, .int .i64 0, .int .i64 0, .slice none 0 0]) := Lib.hid (Blk.new _ _ _ _ rfl)
        clear hK K
        refine wpAnyH_ready (rs := [15]) (by kernel_rfl) (by simp) ?_
        refine AllReadyH.cons rfl (fun K hK => ?_) (AllReadyH.nil)
        go_simp
        refine (HKE.out j hlj _ (below_trans HBXq.out hS2)).mono ?_
        rintro e w9 ⟨q, rfl, hqq, hpq, hb⟩
        have HQQ := Lib.hid hqq
        have HPQ := Lib.hid hpq
        clear hqq hpq
        have HBw9 := Lib.hid (below_trans hS2 hb)
        have HGw9 : Hid (Blk w9 wr.heap.size 50 #[.int .i64 0, .int .i64 0, .int .i64 0, .slice none 0 0]) := Lib.hid ((hb.block _ HGA.out.lt).trans HGA.out)
        go_simp
        refine hK.out _ _ HBw9.out (fun hS1 => ?_)
        clear hK K hb
        refine wpAnyH_take (i := 16) (v := ?_) rfl (by kernel_rfl) (by kernel_rfl) (by kernel_rfl) (fun _ _ _ h => h) (Or.inl ⟨by kernel_rfl, ?hy⟩) hS1 ?rest
        case hy => (intro W hSw; clear hSw; go_simp; with_reducible rfl)
        case rest =>
        refine wpAnyH_take (i := 17) (v := ?_) rfl (by kernel_rfl) (by kernel_rfl) (by kernel_rfl) (fun _ _ _ h => h) (Or.inl ⟨by kernel_rfl, ?hy⟩) hS1 ?rest
        case hy => (intro W hSw; clear hSw; go_simp; with_reducible rfl)
        case rest =>
        refine wpAnyH_take (i := 18) (v := ?_) rfl (by kernel_rfl) (by kernel_rfl) (by kernel_rfl) (fun _ _ _ h => h) (Or.inl ⟨by kernel_rfl, ?hy⟩) hS1 ?rest
        case hy => (intro W hSw; clear hSw; go_simp; with_reducible rfl)
        case rest =>
        try go_simp
        refine wpAnyH_ready (rs := [20]) (by kernel_rfl) (by simp) ?_
        refine AllReadyH.cons rfl (fun K hK => ?_) (AllReadyH.nil)
        have f0 := HGw9.out.of_cell (i := 0) rfl
        have e0_ := HGw9.out.frozen 0
        have f1 := HGw9.out.of_cell (i := 1) rfl
        have e1_ := HGw9.out.frozen 1
        have f2 := HGw9.out.of_cell (i := 2) rfl
        have e2_ := HGw9.out.frozen 2
        have f3 := HGw9.out.of_cell (i := 3) rfl
        have e3_ := HGw9.out.frozen 3
        have fl := HGw9.out.lt
        go_simp
        refine hK.out _ _ ((((HBw9.out.setCell (Nat.le_refl _) _).setCell (Nat.le_refl _) _).setCell (Nat.le_refl _) _).setCell (Nat.le_refl _) _) (fun hS3 => ?_)
        clear hK K fl f0 e0_ f1 e1_ f2 e2_ f3 e3_
        refine wpAnyH_take (i := 21) (v := ?_) rfl (by kernel_rfl) (by kernel_rfl) (by kernel_rfl) (fun _ _ _ h => h) (Or.inl ⟨by kernel_rfl, ?hy⟩) hS3 ?rest
        case hy => (intro W hSw; clear hSw; go_simp; with_reducible rfl)
        case rest =>
        refine wpAnyH_done (by kernel_rfl) ?_ _
        have hblk : Blk ((((w9.setCell ⟨wr.heap.size, 0, none⟩ (.int .i64 q.ix)).setCell ⟨wr.heap.size, 1, none⟩ (.int .i64 q.s.1)).setCell ⟨wr.heap.size, 2, none⟩ (.int .i64 q.s.2)).setCell ⟨wr.heap.size, 3, none⟩ (.slice q.A q.p.length q.c)) wr.heap.size 50 #[.int .i64 q.ix, .int .i64 q.s.1, .int .i64 q.s.2, .slice q.A q.p.length q.c] := ((((HGw9.out.set 0 (.int .i64 q.ix)).set 1 (.int .i64 q.s.1)).set 2 (.int .i64 q.s.2)).set 3 (.slice q.A q.p.length q.c))
        have hbel := ((((HBw9.out.setCell (p := ⟨wr.heap.size, 0, none⟩) (Nat.le_refl _) (.int .i64 q.ix)).setCell (p := ⟨wr.heap.size, 1, none⟩) (Nat.le_refl _) (.int .i64 q.s.1)).setCell (p := ⟨wr.heap.size, 2, none⟩) (Nat.le_refl _) (.int .i64 q.s.2)).setCell (p := ⟨wr.heap.size, 3, none⟩) (Nat.le_refl _) (.slice q.A q.p.length q.c))
        have hpat := ((((HPQ.out.setBlk HGw9.out (by decide) 0 (.int .i64 q.ix)).setBlk (HGw9.out.set 0 (.int .i64 q.ix)) (by decide) 1 (.int .i64 q.s.1)).setBlk ((HGw9.out.set 0 (.int .i64 q.ix)).set 1 (.int .i64 q.s.1)) (by decide) 2 (.int .i64 q.s.2)).setBlk (((HGw9.out.set 0 (.int .i64 q.ix)).set 1 (.int .i64 q.s.1)).set 2 (.int .i64 q.s.2)) (by decide) 3 (.slice q.A q.p.length q.c))
        generalize ((((w9.setCell ⟨wr.heap.size, 0, none⟩ (.int .i64 q.ix)).setCell ⟨wr.heap.size, 1, none⟩ (.int .i64 q.s.1)).setCell ⟨wr.heap.size, 2, none⟩ (.int .i64 q.s.2)).setCell ⟨wr.heap.size, 3, none⟩ (.slice q.A q.p.length q.c)) = w10 at *
        have HCw10 := Lib.hid hblk
        have HBw10 := Lib.hid hbel
        have HPw10 := Lib.hid hpat
        clear hblk hbel hS3 hpat
        have HRw10 := Lib.hid (row_below HRq.out HBw10.out)
        have f0 := HCw10.out.of_cell (i := 0) rfl
        have f1 := HCw10.out.of_cell (i := 1) rfl
        have f2 := HCw10.out.of_cell (i := 2) rfl
        have f3 := HCw10.out.of_cell (i := 3) rfl
        have fl := HCw10.out.lt
        have hsz : w8.heap.size ≤ w10.heap.size := Nat.le_trans HB8q.out.size HBw10.out.size
        go_wp2_with (at_builtin; refine wpList_app _ rfl (.tmp 96) (.tmp 98) 33 33 rfl w8.heap.size 50 50 ip _ 4 48 Tryz.underlying33 Tryz.underlying33 HIP.out.1 HIP.out.2.1 HIP.out.2.2.1 HIP.out.2.2.2 rfl (by omega) _ j _ rfl (HRw10.out.alloc _) _ 1 1 [.int .i64 q.ix, .int .i64 q.s.1, .int .i64 q.s.2, .slice q.A q.p.length q.c] rfl (Rd_new w10 #[.int .i64 q.ix, .int .i64 q.s.1, .int .i64 q.s.2, .slice q.A q.p.length q.c] _ 4 1 _ rfl rfl) (by simp [Value.oneCell']) (by simp only [maxLen]; omega) (by omega) (by simp; omega) ?_)
        intro v1 w11 hown hg
        have HB11 : Hid (Below w8.heap.size w8 w11) := Lib.hid ((below_alloc (below_trans HB8q.out HBw10.out) _).grown hg (by simp; omega) (fun j hj => (HRw10.out.lt j hj).1))
        have HP11 : Hid (∀ k, k ∈ ls ++ [q] → PathIn w11 k.A k.p) := Lib.hid (fun k hk => by
          have h1 : PathIn w10 k.A k.p := by
            rcases List.mem_append.1 hk with h | h
            · exact (HPS.out k h).below HBw10.out
            · rw [List.mem_singleton.1 h]; exact HPw10.out
          exact (h1.below (below_alloc (Below.refl _ _) _)).keep (fun a cs _ hcs => grown_typed (HRw10.out.alloc _) hg (by decide) _ cs hcs))
        have e5 : ls.flatMap kpC ++ [.int .i64 q.ix, .int .i64 q.s.1, .int .i64 q.s.2, .slice q.A q.p.length q.c] = (ls ++ [q]).flatMap kpC := by rw [List.flatMap_append]; rfl
        rw [e5] at hown
        have HO11 := Lib.hid hown
        clear hown hg e5 f0 f1 f2 f3 fl
        go_wp2
        go_roundw
        case rel => exact ⟨j + 1, ls ++ [q], by omega, by go_num, HB11.out, HO11.out, HKS.out.snoc HQQ.out, HP11.out⟩
        case measure => simp [intOf]; omega
    · skip
      go_simp
      refine hK.out _ _ (below_alloc (Below.refl _ _).drew _) (fun hS2 => ?_)
      have HGA : Hid (Blk ((World.drew w6).alloc (.cells #[.int .i64 0, .int .i64 0, .string ⟨#[]⟩, .slice none 0 0] 32)) w6.heap.size 32 #[.int .i64 0, .int .i64 0, .string ⟨#[]⟩, .slice none 0 0]) := Lib.hid (Blk.new _ _ _ _ rfl)
      clear hK K
      refine wpAnyH_ready (rs := [11]) (by kernel_rfl) (by simp) ?_
      refine AllReadyH.cons rfl (fun K hK => ?_) (AllReadyH.nil)
      go_simp
      refine (HOP.out _ (below_trans HBX6.out hS2)).mono ?_
      rintro e w7 ⟨o, rfl, hoo, hpo, hpc, hb⟩
      have HOO := Lib.hid (And.intro hoo hpc)
      have HPO := Lib.hid hpo
      clear hoo hpo hpc
      have HBw7 := Lib.hid (below_trans hS2 hb)
      have HGw7 : Hid (Blk w7 w6.heap.size 32 #[.int .i64 0, .int .i64 0, .string ⟨#[]⟩, .slice none 0 0]) := Lib.hid ((hb.block _ HGA.out.lt).trans HGA.out)
      go_simp
      refine hK.out _ _ HBw7.out (fun hS1 => ?_)
      clear hK K hb
      refine wpAnyH_take (i := 12) (v := ?_) rfl (by kernel_rfl) (by kernel_rfl) (by kernel_rfl) (fun _ _ _ h => h) (Or.inl ⟨by kernel_rfl, ?hy⟩) hS1 ?rest
      case hy => (intro W hSw; clear hSw; go_simp; with_reducible rfl)
      case rest =>
      try go_simp
      refine wpAnyH_take (i := 13) (v := ?_) rfl (by kernel_rfl) (by kernel_rfl) (by kernel_rfl) (fun _ _ _ h => h) (Or.inl ⟨by kernel_rfl, ?hy⟩) hS1 ?rest
      case hy => (intro W hSw; clear hSw; go_simp; with_reducible rfl)
      case rest =>
      refine wpAnyH_take (i := 14) (v := ?_) rfl (by kernel_rfl) (by kernel_rfl) (by kernel_rfl) (fun _ _ _ h => h) (Or.inl ⟨by kernel_rfl, ?hy⟩) hS1 ?rest
      case hy => (intro W hSw; clear hSw; go_simp; with_reducible rfl)
      case rest =>
      refine wpAnyH_ready (rs := [16]) (by kernel_rfl) (by simp) ?_
      refine AllReadyH.cons rfl (fun K hK => ?_) (AllReadyH.nil)
      have f0 := HGw7.out.of_cell (i := 0) rfl
      have e0_ := HGw7.out.frozen 0
      have f1 := HGw7.out.of_cell (i := 1) rfl
      have e1_ := HGw7.out.frozen 1
      have f2 := HGw7.out.of_cell (i := 2) rfl
      have e2_ := HGw7.out.frozen 2
      have f3 := HGw7.out.of_cell (i := 3) rfl
      have e3_ := HGw7.out.frozen 3
      have fl := HGw7.out.lt
      go_simp
      refine hK.out _ _ ((((HBw7.out.setCell (Nat.le_refl _) _).setCell (Nat.le_refl _) _).setCell (Nat.le_refl _) _).setCell (Nat.le_refl _) _) (fun hS3 => ?_)
      clear hK K fl f0 e0_ f1 e1_ f2 e2_ f3 e3_
      refine wpAnyH_take (i := 17) (v := ?_) rfl (by kernel_rfl) (by kernel_rfl) (by kernel_rfl) (fun _ _ _ h => h) (Or.inl ⟨by kernel_rfl, ?hy⟩) hS3 ?rest
      case hy => (intro W hSw; clear hSw; go_simp; with_reducible rfl)
      case rest =>
      refine wpAnyH_done (by kernel_rfl) ?_ _
      have hblk : Blk ((((w7.setCell ⟨w6.heap.size, 0, none⟩ (.int .i64 o.ix)).setCell ⟨w6.heap.size, 1, none⟩ (.int .i64 o.v)).setCell ⟨w6.heap.size, 2, none⟩ (.string o.salt)).setCell ⟨w6.heap.size, 3, none⟩ (.slice o.A o.p.length o.c)) w6.heap.size 32 #[.int .i64 o.ix, .int .i64 o.v, .string o.salt, .slice o.A o.p.length o.c] := ((((HGw7.out.set 0 (.int .i64 o.ix)).set 1 (.int .i64 o.v)).set 2 (.string o.salt)).set 3 (.slice o.A o.p.length o.c))
      have hbel := ((((HBw7.out.setCell (p := ⟨w6.heap.size, 0, none⟩) (Nat.le_refl _) (.int .i64 o.ix)).setCell (p := ⟨w6.heap.size, 1, none⟩) (Nat.le_refl _) (.int .i64 o.v)).setCell (p := ⟨w6.heap.size, 2, none⟩) (Nat.le_refl _) (.string o.salt)).setCell (p := ⟨w6.heap.size, 3, none⟩) (Nat.le_refl _) (.slice o.A o.p.length o.c))
      have hpat := ((((HPO.out.setBlk HGw7.out (by decide) 0 (.int .i64 o.ix)).setBlk (HGw7.out.set 0 (.int .i64 o.ix)) (by decide) 1 (.int .i64 o.v)).setBlk ((HGw7.out.set 0 (.int .i64 o.ix)).set 1 (.int .i64 o.v)) (by decide) 2 (.string o.salt)).setBlk (((HGw7.out.set 0 (.int .i64 o.ix)).set 1 (.int .i64 o.v)).set 2 (.string o.salt)) (by decide) 3 (.slice o.A o.p.length o.c))
      generalize ((((w7.setCell ⟨w6.heap.size, 0, none⟩ (.int .i64 o.ix)).setCell ⟨w6.heap.size, 1, none⟩ (.int .i64 o.v)).setCell ⟨w6.heap.size, 2, none⟩ (.string o.salt)).setCell ⟨w6.heap.size, 3, none⟩ (.slice o.A o.p.length o.c)) = w8 at *
      have HCw8 := Lib.hid hblk
      have HBw8 := Lib.hid hbel
      have HPw8 := Lib.hid hpat
      clear hblk hbel hS3 hpat
      have HV8 := Lib.hid (HV6.out.below HBw8.out)
      have HBX8 := Lib.hid HV8.out.b
      have HC68 : Hid (Blk w8 gw6 29 #[.string ca, .string cb]) := Lib.hid ((HBw8.out.block _ HCw6.out.lt).trans HCw6.out)
      clear HCM HOP
      have HFAL : Hid ((b1 = false ∨ b2 = false) → l.all (okK l.length need i) = false) := Lib.hid (fun h => by
        refine all_false_of _ l k x HX.out ?_
        cases b1 with
        | false => unfold okK; rw [HB1.out]; rfl
        | true =>
          rcases h with h | h
          · cases h
          · have h1 := HB1.out
            have h2 := HB2.out
            rw [h] at h2
            unfold dvB at h1
            rw [Bool.and_eq_true] at h1
            rw [h1.1, Bool.true_and] at h2
            unfold okK
            rw [h2, Bool.and_false])
      by_cases hbb : b1 = true ∧ b2 = true
      case neg =>
        have hal := HFAL.out (by cases b1 <;> cases b2 <;> simp_all)
        have HALL := Lib.hid hal
        clear hal
        obtain ⟨CA, cc, rfl, -, -, -⟩ := Rd.of_own HV8.out.rc
        obtain ⟨OA, oc, rfl, -, -, -⟩ := Rd.of_own HV8.out.ro
        obtain ⟨KA, kc, rfl, -, -, -⟩ := Rd.of_own HV8.out.rk
        have n0 := HV8.out.n.of_cell (i := 0) rfl
        have n1 := HV8.out.n.of_cell (i := 1) rfl
        have n2 := HV8.out.n.of_cell (i := 2) rfl
        have nl := HV8.out.n.lt
        have HBK := Lib.hid HV8.out.r
        have hbk := Blk.rowK HBK.out #[.slice CA k cc, .slice OA k oc, .slice KA k kc]
        have hbel := below_setRow HBX8.out (Nat.le_refl _) #[.slice CA k cc, .slice OA k oc, .slice KA k kc]
        obtain ⟨wz, hwz⟩ : ∃ wz, w8.setRow w.heap.size #[.slice CA k cc, .slice OA k oc, .slice KA k kc] = wz := ⟨_, rfl⟩
        rw [hwz] at hbk hbel
        have cc0 := hbk.of_cell (i := 0) rfl
        have cc1 := hbk.of_cell (i := 1) rfl
        have cc2 := hbk.of_cell (i := 2) rfl
        have hlz := hbk.lt
        have HBEL := Lib.hid hbel
        clear hbk hbel
        have hbb' : b1 = false ∨ (b1 = true ∧ b2 = false) := by cases b1 <;> cases b2 <;> simp_all
        clear hbb
        rcases hbb' with rfl | ⟨rfl, rfl⟩
        · have q1 : 1 = e1 := HE1.out
          subst q1
          go_wp2_with (refine wpList_store_row rfl 69 (.tmp 6) (.tmp 67) rfl w.heap.size #[.slice CA k cc, .slice OA k oc, .slice KA k kc] rfl rfl 69 #[.slice none 0 0, .slice none 0 0, .slice none 0 0] HBK.out size_nt rfl (by simp [Value.oneCell']) ?_)
          try rw [hwz]
          go_wp2
          exact bodyPost_ret (v := .tuple #[.agg #[.slice CA k cc, .slice OA k oc, .slice KA k kc], .bool false]) (by simp [results, Tryz.results34, go_sem, cc0, cc1, cc2, hlz]) rfl ⟨HBEL.out, .inl ⟨HALL.out, _, _, _, _, _, _, _, rfl⟩⟩
        · have q1 : 0 = e1 := HE1.out
          have q2 : 1 = e2 := HE2.out
          subst q1 q2
          go_wp2_with (refine wpList_store_row rfl 69 (.tmp 6) (.tmp 67) rfl w.heap.size #[.slice CA k cc, .slice OA k oc, .slice KA k kc] rfl rfl 69 #[.slice none 0 0, .slice none 0 0, .slice none 0 0] HBK.out size_nt rfl (by simp [Value.oneCell']) ?_)
          try rw [hwz]
          go_wp2
          exact bodyPost_ret (v := .tuple #[.agg #[.slice CA k cc, .slice OA k oc, .slice KA k kc], .bool false]) (by simp [results, Tryz.results34, go_sem, cc0, cc1, cc2, hlz]) rfl ⟨HBEL.out, .inl ⟨HALL.out, _, _, _, _, _, _, _, rfl⟩⟩
      case pos =>
      obtain ⟨rfl, rfl⟩ := hbb
      have q1 : 0 = e1 := HE1.out
      have q2 : 0 = e2 := HE2.out
      subst q1 q2
      have HOK : Hid (okK l.length need i x = true) := Lib.hid (by
        have h2 := HB2.out
        rw [Bool.and_eq_true] at h2
        unfold okK
        rw [HB1.out, h2.2]; rfl)
      have HKE : Hid (∀ j, j < l.length → ∀ W, Below w.heap.size w W → Calls Tryz.prog 21 #[.slice x.SA x.seeds.length x.sc, .int .i64 need, .int .i64 l.length, .slice x.RA x.random.length x.rc, .int .i64 i, .int .i64 j] W fun e w' => ∃ q : Kp, e = .returned (.tuple #[.agg #[.int .i64 q.ix, .int .i64 q.s.1, .int .i64 q.s.2, .slice q.A q.p.length q.c], .int .i64 0]) ∧ (∃ A c, q = kpOf x need.toNat l.length i.toNat j A c) ∧ PathIn w' q.A q.p ∧ Below W.heap.size W w') := Lib.hid (fun j hj W hW => by
        have h := HIX.out W hW
        have hdv := dvB_nosalt HB1.out
        obtain ⟨n', m', hn, hm, -⟩ := DivOk.of hdv
        have h2 := HB2.out
        rw [Bool.and_eq_true] at h2
        have hi := of_decide_eq_true h2.2
        have hne : ((need.toNat : Nat) : Int) = need := by omega
        have hie : ((i.toNat : Nat) : Int) = i := by omega
        have := kkeep_ok x.SA x.sc x.seeds need.toNat l.length x.RA x.rc x.random i.toNat j W h.s h.r h.rc h.rcm (by rw [hne]; exact hdv) (by omega) hj (HT.out W hW)
        rw [hne, hie] at this
        refine this.mono ?_
        rintro e w' ⟨A', c', rfl, hc, hp, hb⟩
        refine ⟨kpOf x need.toNat l.length i.toNat j A' c', ?_, ⟨A', c', rfl⟩, hp, hb⟩
        unfold kpOf
        rw [hie])
      clear HFAL
      go_wp2_with fail
      go_loopw [14, 15, 16, 17] (fun u14 u15 u16 u17 wr => ∃ (j : Nat) (ls : List Kp), j ≤ l.length ∧ u15 = .int .i64 j ∧ Below w8.heap.size w8 wr ∧ wr.ownsRow w8.heap.size 50 4 u14 j (ls.flatMap kpC) ∧ KpsOk x need.toNat l.length i.toNat j ls ∧ ∀ k, k ∈ ls → PathIn wr k.A k.p) (fun u14 u15 u16 u17 _ => l.length - (intOf u15).toNat)
      case atStart => exact ⟨0, [], Nat.zero_le _, rfl, Below.refl _ _, World.ownsRow_nil _ _ _ _, ⟨rfl, fun q hq => (by omega)⟩, fun k hk => (by cases hk)⟩
      case round =>
      obtain ⟨j, ls, hj, rfl, hb8, hrow, hkps, hpat⟩ := hrel
      have HB8q := Lib.hid hb8
      have HBXq := Lib.hid (below_trans HBX8.out hb8)
      have HRq := Lib.hid hrow
      have HKS := Lib.hid hkps
      have HPS := Lib.hid hpat
      clear hb8 hrow hkps hpat
      by_cases hlj : j < l.length
      case neg =>
        obtain rfl : j = l.length := by omega
        have hv := HV8.out.below HB8q.out
        obtain ⟨AS, cS, rfl, -, -, hrS⟩ := Rd.of_own HRq.out
        have HM0 : Hid (Mid w w0 wr uc uo uk k k k (((l.take k).map (cmK l.length need)).flatMap cmC) (os.flatMap ogC) (ks.flatMap kwC) os ks o ⟨AS, cS, ls⟩) := Lib.hid ⟨hv.b, hv.r, hv.n, hv.rc, hv.ro, hv.rk, hv.mem, HPw8.out.below HB8q.out, ⟨by unfold RowOf; rw [HKS.out.1]; exact hrS, own_typed HRq.out, HPS.out⟩⟩
        clear hv hrS
        have HCq : Hid (Blk wr gw6 29 #[.string ca, .string cb]) := Lib.hid ((HB8q.out.block _ HC68.out.lt).trans HC68.out)
        have HGq : Hid (Blk wr w6.heap.size 32 #[.int .i64 o.ix, .int .i64 o.v, .string o.salt, .slice o.A o.p.length o.c]) := Lib.hid ((HB8q.out.block _ HCw8.out.lt).trans HCw8.out)
        have n0 := HM0.out.n.of_cell (i := 0) rfl
        have nl := HM0.out.n.lt
        have c0 := HCq.out.of_cell (i := 0) rfl
        have c1 := HCq.out.of_cell (i := 1) rfl
        have cl := HCq.out.lt
        have hsz := HM0.out.b.size
        go_wp2_with (at_builtin; refine wpList_app _ rfl (.tmp 101) (.tmp 103) 55 55 rfl w0.heap.size 29 29 ic _ 2 32 Tryz.underlying55 Tryz.underlying55 HIC.out.1 HIC.out.2.1 HIC.out.2.2.1 HIC.out.2.2.2 rfl (by omega) _ k _ rfl (HM0.out.rc.alloc _) _ 1 1 [.string ca, .string cb] rfl (Rd_new wr #[.string ca, .string cb] _ 2 1 _ rfl rfl) (by simp [Value.oneCell']) (by simp only [maxLen]; omega) (by omega) (by have := HZ0.out; simp; omega) ?_)
        try clear n0
        try clear nl
        try clear c0
        try clear c1
        try clear cl
        try clear hsz
        intro v0 w11 hown0 hg0
        obtain ⟨B0, b0, rfl, -, -, -⟩ := Rd.of_own hown0
        have M1 := HM0.out.below (below_alloc (Below.refl _ _) (.cells #[.string ca, .string cb] 29))
        have hn1 := M1.blkC HZ0.out hg0
        have M2 := M1.stepC HZ0.out hown0 hg0
        have G1 := HGq.out.alloc (.cells #[.string ca, .string cb] 29)
        have G2 := (step_typed M1.rc hg0 hn1 (T := 32) (by decide) (by decide) 0 (.slice B0 (k + 1) b0) _ _ G1).trans G1
        have d0 := hn1.of_cell (i := 0) rfl
        have d1 := hn1.frozen 0
        have d2 := hn1.lt
        obtain ⟨w12, hw12⟩ : ∃ w12, w11.setCell ⟨w.heap.size + 1, 0, none⟩ (.slice B0 (k + 1) b0) = w12 := ⟨_, rfl⟩
        rw [hw12] at M2 G2
        have HM2 := Lib.hid M2
        have HGq2 : Hid (Blk _ _ 32 _) := Lib.hid G2
        clear G1 G2
        clear M1 M2 hn1 hown0 hg0
        have n1 := HM2.out.n.of_cell (i := 1) rfl
        have nl := HM2.out.n.lt
        have g0 := HGq2.out.of_cell (i := 0) rfl
        have g1 := HGq2.out.of_cell (i := 1) rfl
        have g2 := HGq2.out.of_cell (i := 2) rfl
        have g3 := HGq2.out.of_cell (i := 3) rfl
        have gl := HGq2.out.lt
        have hsz := HM2.out.b.size
        go_wp2_with (at_builtin; refine wpList_app _ rfl (.tmp 107) (.tmp 109) 56 56 rfl w0.heap.size 32 32 io _ 4 56 Tryz.underlying56 Tryz.underlying56 HIO.out.1 HIO.out.2.1 HIO.out.2.2.1 HIO.out.2.2.2 rfl (by omega) _ k _ rfl (HM2.out.ro.alloc _) _ 1 1 [.int .i64 o.ix, .int .i64 o.v, .string o.salt, .slice o.A o.p.length o.c] rfl (Rd_new w12 #[.int .i64 o.ix, .int .i64 o.v, .string o.salt, .slice o.A o.p.length o.c] _ 4 1 _ rfl rfl) (by simp [Value.oneCell']) (by simp only [maxLen]; omega) (by omega) (by have := HZ0.out; simp; omega) ?_)
        try clear n1
        try clear nl
        try clear g0
        try clear g1
        try clear g2
        try clear g3
        try clear gl
        try clear hsz
        try clear d0
        try clear d1
        try clear d2
        try clear hw12
        intro v1 w13 hown1 hg1
        obtain ⟨B1, b1, rfl, -, -, -⟩ := Rd.of_own hown1
        have M1 := HM2.out.below (below_alloc (Below.refl _ _) (.cells #[.int .i64 o.ix, .int .i64 o.v, .string o.salt, .slice o.A o.p.length o.c] 32))
        have hn1 := M1.blkO HZ0.out hg1
        have M2 := M1.stepO HZ0.out hown1 hg1
        have d0 := hn1.of_cell (i := 1) rfl
        have d1 := hn1.frozen 1
        have d2 := hn1.lt
        obtain ⟨w14, hw14⟩ : ∃ w14, w13.setCell ⟨w.heap.size + 1, 1, none⟩ (.slice B1 (k + 1) b1) = w14 := ⟨_, rfl⟩
        rw [hw14] at M2
        have HM4 := Lib.hid M2
        clear M1 M2 hn1 hown1 hg1
        have n2 := HM4.out.n.of_cell (i := 2) rfl
        have nl := HM4.out.n.lt
        have hsz := HM4.out.b.size
        go_wp2_with (at_builtin; refine wpList_app _ rfl (.tmp 113) (.tmp 115) 57 57 rfl w0.heap.size 33 33 ik _ 1 24 Tryz.underlying57 Tryz.underlying57 HIK.out.1 HIK.out.2.1 HIK.out.2.2.1 HIK.out.2.2.2 rfl (by omega) _ k _ rfl (HM4.out.rk.alloc _) _ 1 1 [.slice AS l.length cS] rfl (Rd_new w14 #[.slice AS l.length cS] _ 1 1 _ rfl rfl) (by simp [Value.oneCell']) (by simp only [maxLen]; omega) (by omega) (by have := HZ0.out; simp; omega) ?_)
        try clear n2
        try clear nl
        try clear hsz
        try clear d0
        try clear d1
        try clear d2
        try clear hw14
        intro v2 w15 hown2 hg2
        obtain ⟨B2, b2, rfl, -, -, -⟩ := Rd.of_own hown2
        have M1 := HM4.out.below (below_alloc (Below.refl _ _) (.cells #[.slice AS l.length cS] 33))
        have hn1 := M1.blkK HZ0.out hg2
        have M2 := M1.stepK HZ0.out hown2 hg2
        have d0 := hn1.of_cell (i := 2) rfl
        have d1 := hn1.frozen 2
        have d2 := hn1.lt
        obtain ⟨w16, hw16⟩ : ∃ w16, w15.setCell ⟨w.heap.size + 1, 2, none⟩ (.slice B2 (k + 1) b2) = w16 := ⟨_, rfl⟩
        rw [hw16] at M2
        have HM6 := Lib.hid M2
        clear M1 M2 hn1 hown2 hg2
        have HN : Hid (NightInv l need i w w0 w16 (k + 1) (.slice B0 (k + 1) b0) (.slice B1 (k + 1) b1) (.slice B2 (k + 1) b2) (os ++ [o]) (ks ++ [⟨AS, cS, ls⟩])) := Lib.hid (HV8.out.next (by first | (rw [List.map_take, HCAB.out.1, HCAB.out.2]; exact HM6.out) | (rw [List.map_take, HCAB.out.1, HCAB.out.2, HKS.out.1]; exact HM6.out)) HX.out (by first | exact HOO.out.1 rfl | exact HOO.out.1 trivial) HKS.out HOK.out HOO.out.2)
        clear HM6 HM4 HM2 HM0
        go_wp2
        go_roundw
        case rel => exact ⟨k + 1, _, _, _, os ++ [o], ks ++ [⟨AS, cS, ls⟩], by omega, by go_num, HN.out⟩
        case measure => simp [intOf]; omega
      case pos =>
      have hji : (j : Int) < (l.length : Int) := by omega
      go_wp2_with fail
      refine wp_region_held_drew (S := fun W => Below wr.heap.size wr W) (by kernel_rfl) ((Below.refl _ _).drew) (fun hS0 => ?_)
      refine wpAnyH_take (i := 0) (v := ?_) rfl (by kernel_rfl) (by kernel_rfl) (by kernel_rfl) (fun _ _ _ h => h) (Or.inl ⟨by kernel_rfl, ?hy⟩) hS0 ?rest
      case hy => (intro W hSw; clear hSw; go_simp; with_reducible rfl)
      case rest =>
      refine wpAnyH_take (i := 1) (v := ?_) rfl (by kernel_rfl) (by kernel_rfl) (by kernel_rfl) (fun _ _ _ h => h) (Or.inl ⟨by kernel_rfl, ?hy⟩) hS0 ?rest
      case hy => (intro W hSw; clear hSw; go_simp; with_reducible rfl)
      case rest =>
      refine wpAnyH_take (i := 2) (v := ?_) rfl (by kernel_rfl) (by kernel_rfl) (by kernel_rfl) (fun _ _ _ h => h) (Or.inl ⟨by kernel_rfl, ?hy⟩) hS0 ?rest
      case hy => (intro W hSw; clear hSw; go_simp; with_reducible rfl)
      case rest =>
      refine wpAnyH_take (i := 3) (v := ?_) rfl (by kernel_rfl) (by kernel_rfl) (by kernel_rfl) (fun _ _ _ h => h) (Or.inl ⟨by kernel_rfl, ?hy⟩) hS0 ?rest
      case hy => (intro W hSw; clear hSw; go_simp; with_reducible rfl)
      case rest =>
      refine wpAnyH_take (i := 4) (v := ?_) rfl (by kernel_rfl) (by kernel_rfl) (by kernel_rfl) (fun _ _ _ h => h) (Or.inl ⟨by kernel_rfl, ?hy⟩) hS0 ?rest
      case hy => (intro W hSw; obtain ⟨b_, f_, he_, c0, c1, c2, cl⟩ := HC.out W (below_trans HBXq.out hSw); cases he_; clear hSw; go_simp; with_reducible rfl)
      case rest =>
      refine wpAnyH_take (i := 5) (v := ?_) rfl (by kernel_rfl) (by kernel_rfl) (by kernel_rfl) (fun _ _ _ h => h) (Or.inl ⟨by kernel_rfl, ?hy⟩) hS0 ?rest
      case hy => (intro W hSw; clear hSw; go_simp; with_reducible rfl)
      case rest =>
      try go_simp
      refine wpAnyH_take (i := 6) (v := ?_) rfl (by kernel_rfl) (by kernel_rfl) (by kernel_rfl) (fun _ _ _ h => h) (Or.inl ⟨by kernel_rfl, ?hy⟩) hS0 ?rest
      case hy => (intro W hSw; clear hSw; go_simp; with_reducible rfl)
      case rest =>
      refine wpAnyH_take (i := 7) (v := ?_) rfl (by kernel_rfl) (by kernel_rfl) (by kernel_rfl) (fun _ _ _ h => h) (Or.inl ⟨by kernel_rfl, ?hy⟩) hS0 ?rest
      case hy => (intro W hSw; clear hSw; go_simp; with_reducible rfl)
      case rest =>
      refine wpAnyH_take (i := 8) (v := ?_) rfl (by kernel_rfl) (by kernel_rfl) (by kernel_rfl) (fun _ _ _ h => h) (Or.inl ⟨by kernel_rfl, ?hy⟩) hS0 ?rest
      case hy => (intro W hSw; clear hSw; go_simp; with_reducible rfl)
      case rest =>
      refine wpAnyH_take (i := 9) (v := ?_) rfl (by kernel_rfl) (by kernel_rfl) (by kernel_rfl) (fun _ _ _ h => h) (Or.inl ⟨by kernel_rfl, ?hy⟩) hS0 ?rest
      case hy => (intro W hSw; clear hSw; go_simp; with_reducible rfl)
      case rest =>
      refine wpAnyH_take (i := 10) (v := ?_) rfl (by kernel_rfl) (by kernel_rfl) (by kernel_rfl) (fun _ _ _ h => h) (Or.inl ⟨by kernel_rfl, ?hy⟩) hS0 ?rest
      case hy => (intro W hSw; clear hSw; go_simp; with_reducible rfl)
      case rest =>
      refine wpAnyH_take (i := 11) (v := ?_) rfl (by kernel_rfl) (by kernel_rfl) (by kernel_rfl) (fun _ _ _ h => h) (Or.inl ⟨by kernel_rfl, ?hy⟩) hS0 ?rest
      case hy => (intro W hSw; clear hSw; go_simp; with_reducible rfl)
      case rest =>
      try go_simp
      refine wpAnyH_take (i := 12) (v := ?_) rfl (by kernel_rfl) (by kernel_rfl) (by kernel_rfl) (fun _ _ _ h => h) (Or.inl ⟨by kernel_rfl, ?hy⟩) hS0 ?rest
      case hy => (intro W hSw; obtain ⟨b_, f_, he_, c0, c1, c2, cl⟩ := HC.out W (below_trans HBXq.out hSw); cases he_; clear hSw; go_simp; with_reducible rfl)
      case rest =>
      refine wpAnyH_take (i := 13) (v := ?_) rfl (by kernel_rfl) (by kernel_rfl) (by kernel_rfl) (fun _ _ _ h => h) (Or.inl ⟨by kernel_rfl, ?hy⟩) hS0 ?rest
      case hy => (intro W hSw; clear hSw; go_simp; with_reducible rfl)
      case rest =>
      refine wpAnyH_take (i := 14) (v := ?_) rfl (by kernel_rfl) (by kernel_rfl) (by kernel_rfl) (fun _ _ _ h => h) (Or.inl ⟨by kernel_rfl, ?hy⟩) hS0 ?rest
      case hy => (intro W hSw; clear hSw; go_simp; with_reducible rfl)
      case rest =>
      refine wpAnyH_ready (rs := [15, 19]) (by kernel_rfl) (by simp) ?_
      refine AllReadyH.cons rfl (fun K hK => ?_) (AllReadyH.cons rfl (fun K hK => ?_) (AllReadyH.nil))
      · skip
        go_simp
        refine (HKE.out j hlj _ (below_trans HBXq.out hS0)).mono ?_
        rintro e w9 ⟨q, rfl, hqq, hpq, hb⟩
        have HQQ := Lib.hid hqq
        have HPQ := Lib.hid hpq
        clear hqq hpq
        have HBw9 := Lib.hid (below_trans hS0 hb)
        go_simp
        refine hK.out _ _ HBw9.out (fun hS1 => ?_)
        clear hK K hb
        refine wpAnyH_take (i := 16) (v := ?_) rfl (by kernel_rfl) (by kernel_rfl) (by kernel_rfl) (fun _ _ _ h => h) (Or.inl ⟨by kernel_rfl, ?hy⟩) hS1 ?rest
        case hy => (intro W hSw; clear hSw; go_simp; with_reducible rfl)
        case rest =>
        refine wpAnyH_take (i := 17) (v := ?_) rfl (by kernel_rfl) (by kernel_rfl) (by kernel_rfl) (fun _ _ _ h => h) (Or.inl ⟨by kernel_rfl, ?hy⟩) hS1 ?rest
        case hy => (intro W hSw; clear hSw; go_simp; with_reducible rfl)
        case rest =>
        refine wpAnyH_take (i := 18) (v := ?_) rfl (by kernel_rfl) (by kernel_rfl) (by kernel_rfl) (fun _ _ _ h => h) (Or.inl ⟨by kernel_rfl, ?hy⟩) hS1 ?rest
        case hy => (intro W hSw; clear hSw; go_simp; with_reducible rfl)
        case rest =>
        try go_simp
        refine wpAnyH_ready (rs := [19]) (by kernel_rfl) (by simp) ?_
        refine AllReadyH.cons rfl (fun K hK => ?_) (AllReadyH.nil)
        go_simp
        refine hK.out _ _ (below_alloc HBw9.out _) (fun hS2 => ?_)
        clear hK K
        refine wpAnyH_ready (rs := [20]) (by kernel_rfl) (by simp) ?_
        refine AllReadyH.cons rfl (fun K hK => ?_) (AllReadyH.nil)
        go_simp
        refine hK.out _ _ (below_alloc HBw9.out _) (fun hS3 => ?_)
        clear hK K
        refine wpAnyH_take (i := 21) (v := ?_) rfl (by kernel_rfl) (by kernel_rfl) (by kernel_rfl) (fun _ _ _ h => h) (Or.inl ⟨by kernel_rfl, ?hy⟩) hS3 ?rest
        case hy => (intro W hSw; clear hSw; go_simp; with_reducible rfl)
        case rest =>
        refine wpAnyH_done (by kernel_rfl) ?_ _
        have hblk : Blk (w9.alloc (.cells #[.int .i64 q.ix, .int .i64 q.s.1, .int .i64 q.s.2, .slice q.A q.p.length q.c] 50)) w9.heap.size 50 #[.int .i64 q.ix, .int .i64 q.s.1, .int .i64 q.s.2, .slice q.A q.p.length q.c] := Blk.new _ _ _ _ rfl
        have hbel := below_alloc HBw9.out (.cells #[.int .i64 q.ix, .int .i64 q.s.1, .int .i64 q.s.2, .slice q.A q.p.length q.c] 50)
        have hpat := HPQ.out.below (below_alloc (Below.refl _ _) (.cells #[.int .i64 q.ix, .int .i64 q.s.1, .int .i64 q.s.2, .slice q.A q.p.length q.c] 50))
        generalize w9.alloc (.cells #[.int .i64 q.ix, .int .i64 q.s.1, .int .i64 q.s.2, .slice q.A q.p.length q.c] 50) = w10 at *
        generalize w9.heap.size = gw10 at *
        have HCw10 := Lib.hid hblk
        have HBw10 := Lib.hid hbel
        have HPw10 := Lib.hid hpat
        clear hblk hbel hS3 hpat
        have HRw10 := Lib.hid (row_below HRq.out HBw10.out)
        have f0 := HCw10.out.of_cell (i := 0) rfl
        have f1 := HCw10.out.of_cell (i := 1) rfl
        have f2 := HCw10.out.of_cell (i := 2) rfl
        have f3 := HCw10.out.of_cell (i := 3) rfl
        have fl := HCw10.out.lt
        have hsz : w8.heap.size ≤ w10.heap.size := Nat.le_trans HB8q.out.size HBw10.out.size
        go_wp2_with (at_builtin; refine wpList_app _ rfl (.tmp 96) (.tmp 98) 33 33 rfl w8.heap.size 50 50 ip _ 4 48 Tryz.underlying33 Tryz.underlying33 HIP.out.1 HIP.out.2.1 HIP.out.2.2.1 HIP.out.2.2.2 rfl (by omega) _ j _ rfl (HRw10.out.alloc _) _ 1 1 [.int .i64 q.ix, .int .i64 q.s.1, .int .i64 q.s.2, .slice q.A q.p.length q.c] rfl (Rd_new w10 #[.int .i64 q.ix, .int .i64 q.s.1, .int .i64 q.s.2, .slice q.A q.p.length q.c] _ 4 1 _ rfl rfl) (by simp [Value.oneCell']) (by simp only [maxLen]; omega) (by omega) (by simp; omega) ?_)
        intro v1 w11 hown hg
        have HB11 : Hid (Below w8.heap.size w8 w11) := Lib.hid ((below_alloc (below_trans HB8q.out HBw10.out) _).grown hg (by simp; omega) (fun j hj => (HRw10.out.lt j hj).1))
        have HP11 : Hid (∀ k, k ∈ ls ++ [q] → PathIn w11 k.A k.p) := Lib.hid (fun k hk => by
          have h1 : PathIn w10 k.A k.p := by
            rcases List.mem_append.1 hk with h | h
            · exact (HPS.out k h).below HBw10.out
            · rw [List.mem_singleton.1 h]; exact HPw10.out
          exact (h1.below (below_alloc (Below.refl _ _) _)).keep (fun a cs _ hcs => grown_typed (HRw10.out.alloc _) hg (by decide) _ cs hcs))
        have e5 : ls.flatMap kpC ++ [.int .i64 q.ix, .int .i64 q.s.1, .int .i64 q.s.2, .slice q.A q.p.length q.c] = (ls ++ [q]).flatMap kpC := by rw [List.flatMap_append]; rfl
        rw [e5] at hown
        have HO11 := Lib.hid hown
        clear hown hg e5 f0 f1 f2 f3 fl
        go_wp2
        go_roundw
        case rel => exact ⟨j + 1, ls ++ [q], by omega, by go_num, HB11.out, HO11.out, HKS.out.snoc HQQ.out, HP11.out⟩
        case measure => simp [intOf]; omega
      · skip
        go_simp
        refine hK.out _ _ (below_alloc (Below.refl _ _).drew _) (fun hS2 => ?_)
        have HGA : Hid (Blk ((World.drew wr).alloc (.cells #[.int .i64 0, .int .i64 0, .int .i64 0, .slice none 0 0] 50)) wr.heap.size 50 #[.int .i64 0, .int .i64 0, .int .i64 0, .slice none 0 0]) := Lib.hid (Blk.new _ _ _ _ rfl)
        clear hK K
        refine wpAnyH_ready (rs := [15]) (by kernel_rfl) (by simp) ?_
        refine AllReadyH.cons rfl (fun K hK => ?_) (AllReadyH.nil)
        go_simp
        refine (HKE.out j hlj _ (below_trans HBXq.out hS2)).mono ?_
        rintro e w9 ⟨q, rfl, hqq, hpq, hb⟩
        have HQQ := Lib.hid hqq
        have HPQ := Lib.hid hpq
        clear hqq hpq
        have HBw9 := Lib.hid (below_trans hS2 hb)
        have HGw9 : Hid (Blk w9 wr.heap.size 50 #[.int .i64 0, .int .i64 0, .int .i64 0, .slice none 0 0]) := Lib.hid ((hb.block _ HGA.out.lt).trans HGA.out)
        go_simp
        refine hK.out _ _ HBw9.out (fun hS1 => ?_)
        clear hK K hb
        refine wpAnyH_take (i := 16) (v := ?_) rfl (by kernel_rfl) (by kernel_rfl) (by kernel_rfl) (fun _ _ _ h => h) (Or.inl ⟨by kernel_rfl, ?hy⟩) hS1 ?rest
        case hy => (intro W hSw; clear hSw; go_simp; with_reducible rfl)
        case rest =>
        refine wpAnyH_take (i := 17) (v := ?_) rfl (by kernel_rfl) (by kernel_rfl) (by kernel_rfl) (fun _ _ _ h => h) (Or.inl ⟨by kernel_rfl, ?hy⟩) hS1 ?rest
        case hy => (intro W hSw; clear hSw; go_simp; with_reducible rfl)
        case rest =>
        refine wpAnyH_take (i := 18) (v := ?_) rfl (by kernel_rfl) (by kernel_rfl) (by kernel_rfl) (fun _ _ _ h => h) (Or.inl ⟨by kernel_rfl, ?hy⟩) hS1 ?rest
        case hy => (intro W hSw; clear hSw; go_simp; with_reducible rfl)
        case rest =>
        try go_simp
        refine wpAnyH_ready (rs := [20]) (by kernel_rfl) (by simp) ?_
        refine AllReadyH.cons rfl (fun K hK => ?_) (AllReadyH.nil)
        have f0 := HGw9.out.of_cell (i := 0) rfl
        have e0_ := HGw9.out.frozen 0
        have f1 := HGw9.out.of_cell (i := 1) rfl
        have e1_ := HGw9.out.frozen 1
        have f2 := HGw9.out.of_cell (i := 2) rfl
        have e2_ := HGw9.out.frozen 2
        have f3 := HGw9.out.of_cell (i := 3) rfl
        have e3_ := HGw9.out.frozen 3
        have fl := HGw9.out.lt
        go_simp
        refine hK.out _ _ ((((HBw9.out.setCell (Nat.le_refl _) _).setCell (Nat.le_refl _) _).setCell (Nat.le_refl _) _).setCell (Nat.le_refl _) _) (fun hS3 => ?_)
        clear hK K fl f0 e0_ f1 e1_ f2 e2_ f3 e3_
        refine wpAnyH_take (i := 21) (v := ?_) rfl (by kernel_rfl) (by kernel_rfl) (by kernel_rfl) (fun _ _ _ h => h) (Or.inl ⟨by kernel_rfl, ?hy⟩) hS3 ?rest
        case hy => (intro W hSw; clear hSw; go_simp; with_reducible rfl)
        case rest =>
        refine wpAnyH_done (by kernel_rfl) ?_ _
        have hblk : Blk ((((w9.setCell ⟨wr.heap.size, 0, none⟩ (.int .i64 q.ix)).setCell ⟨wr.heap.size, 1, none⟩ (.int .i64 q.s.1)).setCell ⟨wr.heap.size, 2, none⟩ (.int .i64 q.s.2)).setCell ⟨wr.heap.size, 3, none⟩ (.slice q.A q.p.length q.c)) wr.heap.size 50 #[.int .i64 q.ix, .int .i64 q.s.1, .int .i64 q.s.2, .slice q.A q.p.length q.c] := ((((HGw9.out.set 0 (.int .i64 q.ix)).set 1 (.int .i64 q.s.1)).set 2 (.int .i64 q.s.2)).set 3 (.slice q.A q.p.length q.c))
        have hbel := ((((HBw9.out.setCell (p := ⟨wr.heap.size, 0, none⟩) (Nat.le_refl _) (.int .i64 q.ix)).setCell (p := ⟨wr.heap.size, 1, none⟩) (Nat.le_refl _) (.int .i64 q.s.1)).setCell (p := ⟨wr.heap.size, 2, none⟩) (Nat.le_refl _) (.int .i64 q.s.2)).setCell (p := ⟨wr.heap.size, 3, none⟩) (Nat.le_refl _) (.slice q.A q.p.length q.c))
        have hpat := ((((HPQ.out.setBlk HGw9.out (by decide) 0 (.int .i64 q.ix)).setBlk (HGw9.out.set 0 (.int .i64 q.ix)) (by decide) 1 (.int .i64 q.s.1)).setBlk ((HGw9.out.set 0 (.int .i64 q.ix)).set 1 (.int .i64 q.s.1)) (by decide) 2 (.int .i64 q.s.2)).setBlk (((HGw9.out.set 0 (.int .i64 q.ix)).set 1 (.int .i64 q.s.1)).set 2 (.int .i64 q.s.2)) (by decide) 3 (.slice q.A q.p.length q.c))
        generalize ((((w9.setCell ⟨wr.heap.size, 0, none⟩ (.int .i64 q.ix)).setCell ⟨wr.heap.size, 1, none⟩ (.int .i64 q.s.1)).setCell ⟨wr.heap.size, 2, none⟩ (.int .i64 q.s.2)).setCell ⟨wr.heap.size, 3, none⟩ (.slice q.A q.p.length q.c)) = w10 at *
        have HCw10 := Lib.hid hblk
        have HBw10 := Lib.hid hbel
        have HPw10 := Lib.hid hpat
        clear hblk hbel hS3 hpat
        have HRw10 := Lib.hid (row_below HRq.out HBw10.out)
        have f0 := HCw10.out.of_cell (i := 0) rfl
        have f1 := HCw10.out.of_cell (i := 1) rfl
        have f2 := HCw10.out.of_cell (i := 2) rfl
        have f3 := HCw10.out.of_cell (i := 3) rfl
        have fl := HCw10.out.lt
        have hsz : w8.heap.size ≤ w10.heap.size := Nat.le_trans HB8q.out.size HBw10.out.size
        go_wp2_with (at_builtin; refine wpList_app _ rfl (.tmp 96) (.tmp 98) 33 33 rfl w8.heap.size 50 50 ip _ 4 48 Tryz.underlying33 Tryz.underlying33 HIP.out.1 HIP.out.2.1 HIP.out.2.2.1 HIP.out.2.2.2 rfl (by omega) _ j _ rfl (HRw10.out.alloc _) _ 1 1 [.int .i64 q.ix, .int .i64 q.s.1, .int .i64 q.s.2, .slice q.A q.p.length q.c] rfl (Rd_new w10 #[.int .i64 q.ix, .int .i64 q.s.1, .int .i64 q.s.2, .slice q.A q.p.length q.c] _ 4 1 _ rfl rfl) (by simp [Value.oneCell']) (by simp only [maxLen]; omega) (by omega) (by simp; omega) ?_)
        intro v1 w11 hown hg
        have HB11 : Hid (Below w8.heap.size w8 w11) := Lib.hid ((below_alloc (below_trans HB8q.out HBw10.out) _).grown hg (by simp; omega) (fun j hj => (HRw10.out.lt j hj).1))
        have HP11 : Hid (∀ k, k ∈ ls ++ [q] → PathIn w11 k.A k.p) := Lib.hid (fun k hk => by
          have h1 : PathIn w10 k.A k.p := by
            rcases List.mem_append.1 hk with h | h
            · exact (HPS.out k h).below HBw10.out
            · rw [List.mem_singleton.1 h]; exact HPw10.out
          exact (h1.below (below_alloc (Below.refl _ _) _)).keep (fun a cs _ hcs => grown_typed (HRw10.out.alloc _) hg (by decide) _ cs hcs))
        have e5 : ls.flatMap kpC ++ [.int .i64 q.ix, .int .i64 q.s.1, .int .i64 q.s.2, .slice q.A q.p.length q.c] = (ls ++ [q]).flatMap kpC := by rw [List.flatMap_append]; rfl
        rw [e5] at hown
        have HO11 := Lib.hid hown
        clear hown hg e5 f0 f1 f2 f3 fl
        go_wp2
        go_roundw
        case rel => exact ⟨j + 1, ls ++ [q], by omega, by go_num, HB11.out, HO11.out, HKS.out.snoc HQQ.out, HP11.out⟩
        case measure => simp [intOf]; omega
  · skip
    go_simp
    refine hK.out _ _ (below_alloc (Below.refl _ _).drew _) (fun hS2 => ?_)
    have HGA : Hid (Blk ((World.drew wr).alloc (.cells #[.string ⟨#[]⟩, .string ⟨#[]⟩] 29)) wr.heap.size 29 #[.string ⟨#[]⟩, .string ⟨#[]⟩]) := Lib.hid (Blk.new _ _ _ _ rfl)
    clear hK K
    refine wpAnyH_ready (rs := [18]) (by kernel_rfl) (by simp) ?_
    refine AllReadyH.cons rfl (fun K hK => ?_) (AllReadyH.nil)
    go_simp
    refine (HCM.out _ (below_trans HBk.out hS2)).mono ?_
    rintro e w5 ⟨rfl, hb⟩
    have HBw5 := Lib.hid (below_trans hS2 hb)
    have HGw5 : Hid (Blk w5 wr.heap.size 29 #[.string ⟨#[]⟩, .string ⟨#[]⟩]) := Lib.hid ((hb.block _ HGA.out.lt).trans HGA.out)
    go_simp
    refine hK.out _ _ HBw5.out (fun hS1 => ?_)
    clear hK K hb
    refine wpAnyH_take (i := 19) (v := ?_) rfl (by kernel_rfl) (by kernel_rfl) (by kernel_rfl) (fun _ _ _ h => h) (Or.inl ⟨by kernel_rfl, ?hy⟩) hS1 ?rest
    case hy => (intro W hSw; clear hSw; go_simp; with_reducible rfl)
    case rest =>
    refine wpAnyH_take (i := 20) (v := ?_) rfl (by kernel_rfl) (by kernel_rfl) (by kernel_rfl) (fun _ _ _ h => h) (Or.inl ⟨by kernel_rfl, ?hy⟩) hS1 ?rest
    case hy => (intro W hSw; clear hSw; go_simp; with_reducible rfl)
    case rest =>
    refine wpAnyH_take (i := 21) (v := ?_) rfl (by kernel_rfl) (by kernel_rfl) (by kernel_rfl) (fun _ _ _ h => h) (Or.inl ⟨by kernel_rfl, ?hy⟩) hS1 ?rest
    case hy => (intro W hSw; clear hSw; go_simp; with_reducible rfl)
    case rest =>
    refine wpAnyH_ready (rs := [23]) (by kernel_rfl) (by simp) ?_
    refine AllReadyH.cons rfl (fun K hK => ?_) (AllReadyH.nil)
    have f0 := HGw5.out.of_cell (i := 0) rfl
    have e0_ := HGw5.out.frozen 0
    have f1 := HGw5.out.of_cell (i := 1) rfl
    have e1_ := HGw5.out.frozen 1
    have fl := HGw5.out.lt
    go_simp
    refine hK.out _ _ ((HBw5.out.setCell (Nat.le_refl _) _).setCell (Nat.le_refl _) _) (fun hS3 => ?_)
    clear hK K fl f0 e0_ f1 e1_
    refine wpAnyH_take (i := 24) (v := ?_) rfl (by kernel_rfl) (by kernel_rfl) (by kernel_rfl) (fun _ _ _ h => h) (Or.inl ⟨by kernel_rfl, ?hy⟩) hS3 ?rest
    case hy => (intro W hSw; clear hSw; go_simp; with_reducible rfl)
    case rest =>
    refine wpAnyH_done (by kernel_rfl) ?_ _
    have hblk : Blk ((w5.setCell ⟨wr.heap.size, 0, none⟩ (.string ca)).setCell ⟨wr.heap.size, 1, none⟩ (.string cb)) wr.heap.size 29 #[.string ca, .string cb] := ((HGw5.out.set 0 (.string ca)).set 1 (.string cb))
    have hbel := ((HBw5.out.setCell (p := ⟨wr.heap.size, 0, none⟩) (Nat.le_refl _) (.string ca)).setCell (p := ⟨wr.heap.size, 1, none⟩) (Nat.le_refl _) (.string cb))
    generalize ((w5.setCell ⟨wr.heap.size, 0, none⟩ (.string ca)).setCell ⟨wr.heap.size, 1, none⟩ (.string cb)) = w6 at *
    have HCw6 := Lib.hid hblk
    have HBw6 := Lib.hid hbel
    clear hblk hbel hS3
    have HV6 := Lib.hid (HV.out.below HBw6.out)
    have HBX6 := Lib.hid HV6.out.b
    go_wp2_with fail
    refine wp_region_held_drew (S := fun W => Below w6.heap.size w6 W) (by kernel_rfl) ((Below.refl _ _).drew) (fun hS0 => ?_)
    refine wpAnyH_take (i := 0) (v := ?_) rfl (by kernel_rfl) (by kernel_rfl) (by kernel_rfl) (fun _ _ _ h => h) (Or.inl ⟨by kernel_rfl, ?hy⟩) hS0 ?rest
    case hy => (intro W hSw; clear hSw; go_simp; with_reducible rfl)
    case rest =>
    refine wpAnyH_take (i := 1) (v := ?_) rfl (by kernel_rfl) (by kernel_rfl) (by kernel_rfl) (fun _ _ _ h => h) (Or.inl ⟨by kernel_rfl, ?hy⟩) hS0 ?rest
    case hy => (intro W hSw; clear hSw; go_simp; with_reducible rfl)
    case rest =>
    refine wpAnyH_take (i := 2) (v := ?_) rfl (by kernel_rfl) (by kernel_rfl) (by kernel_rfl) (fun _ _ _ h => h) (Or.inl ⟨by kernel_rfl, ?hy⟩) hS0 ?rest
    case hy => (intro W hSw; clear hSw; go_simp; with_reducible rfl)
    case rest =>
    refine wpAnyH_take (i := 3) (v := ?_) rfl (by kernel_rfl) (by kernel_rfl) (by kernel_rfl) (fun _ _ _ h => h) (Or.inl ⟨by kernel_rfl, ?hy⟩) hS0 ?rest
    case hy => (intro W hSw; clear hSw; go_simp; with_reducible rfl)
    case rest =>
    refine wpAnyH_take (i := 4) (v := ?_) rfl (by kernel_rfl) (by kernel_rfl) (by kernel_rfl) (fun _ _ _ h => h) (Or.inl ⟨by kernel_rfl, ?hy⟩) hS0 ?rest
    case hy => (intro W hSw; obtain ⟨b_, f_, he_, c0, c1, c2, cl⟩ := HC.out W (below_trans HBX6.out hSw); cases he_; clear hSw; go_simp; with_reducible rfl)
    case rest =>
    refine wpAnyH_take (i := 5) (v := ?_) rfl (by kernel_rfl) (by kernel_rfl) (by kernel_rfl) (fun _ _ _ h => h) (Or.inl ⟨by kernel_rfl, ?hy⟩) hS0 ?rest
    case hy => (intro W hSw; clear hSw; go_simp; with_reducible rfl)
    case rest =>
    try go_simp
    refine wpAnyH_take (i := 6) (v := ?_) rfl (by kernel_rfl) (by kernel_rfl) (by kernel_rfl) (fun _ _ _ h => h) (Or.inl ⟨by kernel_rfl, ?hy⟩) hS0 ?rest
    case hy => (intro W hSw; clear hSw; go_simp; with_reducible rfl)
    case rest =>
    refine wpAnyH_take (i := 7) (v := ?_) rfl (by kernel_rfl) (by kernel_rfl) (by kernel_rfl) (fun _ _ _ h => h) (Or.inl ⟨by kernel_rfl, ?hy⟩) hS0 ?rest
    case hy => (intro W hSw; clear hSw; go_simp; with_reducible rfl)
    case rest =>
    refine wpAnyH_take (i := 8) (v := ?_) rfl (by kernel_rfl) (by kernel_rfl) (by kernel_rfl) (fun _ _ _ h => h) (Or.inl ⟨by kernel_rfl, ?hy⟩) hS0 ?rest
    case hy => (intro W hSw; clear hSw; go_simp; with_reducible rfl)
    case rest =>
    refine wpAnyH_take (i := 9) (v := ?_) rfl (by kernel_rfl) (by kernel_rfl) (by kernel_rfl) (fun _ _ _ h => h) (Or.inl ⟨by kernel_rfl, ?hy⟩) hS0 ?rest
    case hy => (intro W hSw; obtain ⟨b_, f_, he_, c0, c1, c2, cl⟩ := HC.out W (below_trans HBX6.out hSw); cases he_; clear hSw; go_simp; with_reducible rfl)
    case rest =>
    refine wpAnyH_take (i := 10) (v := ?_) rfl (by kernel_rfl) (by kernel_rfl) (by kernel_rfl) (fun _ _ _ h => h) (Or.inl ⟨by kernel_rfl, ?hy⟩) hS0 ?rest
    case hy => (intro W hSw; clear hSw; go_simp; with_reducible rfl)
    case rest =>
    refine wpAnyH_ready (rs := [11, 15]) (by kernel_rfl) (by simp) ?_
    refine AllReadyH.cons rfl (fun K hK => ?_) (AllReadyH.cons rfl (fun K hK => ?_) (AllReadyH.nil))
    · skip
      go_simp
      refine (HOP.out _ (below_trans HBX6.out hS0)).mono ?_
      rintro e w7 ⟨o, rfl, hoo, hpo, hpc, hb⟩
      have HOO := Lib.hid (And.intro hoo hpc)
      have HPO := Lib.hid hpo
      clear hoo hpo hpc
      have HBw7 := Lib.hid (below_trans hS0 hb)
      go_simp
      refine hK.out _ _ HBw7.out (fun hS1 => ?_)
      clear hK K hb
      refine wpAnyH_take (i := 12) (v := ?_) rfl (by kernel_rfl) (by kernel_rfl) (by kernel_rfl) (fun _ _ _ h => h) (Or.inl ⟨by kernel_rfl, ?hy⟩) hS1 ?rest
      case hy => (intro W hSw; clear hSw; go_simp; with_reducible rfl)
      case rest =>
      try go_simp
      refine wpAnyH_take (i := 13) (v := ?_) rfl (by kernel_rfl) (by kernel_rfl) (by kernel_rfl) (fun _ _ _ h => h) (Or.inl ⟨by kernel_rfl, ?hy⟩) hS1 ?rest
      case hy => (intro W hSw; clear hSw; go_simp; with_reducible rfl)
      case rest =>
      refine wpAnyH_take (i := 14) (v := ?_) rfl (by kernel_rfl) (by kernel_rfl) (by kernel_rfl) (fun _ _ _ h => h) (Or.inl ⟨by kernel_rfl, ?hy⟩) hS1 ?rest
      case hy => (intro W hSw; clear hSw; go_simp; with_reducible rfl)
      case rest =>
      refine wpAnyH_ready (rs := [15]) (by kernel_rfl) (by simp) ?_
      refine AllReadyH.cons rfl (fun K hK => ?_) (AllReadyH.nil)
      go_simp
      refine hK.out _ _ (below_alloc HBw7.out _) (fun hS2 => ?_)
      clear hK K
      refine wpAnyH_ready (rs := [16]) (by kernel_rfl) (by simp) ?_
      refine AllReadyH.cons rfl (fun K hK => ?_) (AllReadyH.nil)
      go_simp
      refine hK.out _ _ (below_alloc HBw7.out _) (fun hS3 => ?_)
      clear hK K
      refine wpAnyH_take (i := 17) (v := ?_) rfl (by kernel_rfl) (by kernel_rfl) (by kernel_rfl) (fun _ _ _ h => h) (Or.inl ⟨by kernel_rfl, ?hy⟩) hS3 ?rest
      case hy => (intro W hSw; clear hSw; go_simp; with_reducible rfl)
      case rest =>
      refine wpAnyH_done (by kernel_rfl) ?_ _
      have hblk : Blk (w7.alloc (.cells #[.int .i64 o.ix, .int .i64 o.v, .string o.salt, .slice o.A o.p.length o.c] 32)) w7.heap.size 32 #[.int .i64 o.ix, .int .i64 o.v, .string o.salt, .slice o.A o.p.length o.c] := Blk.new _ _ _ _ rfl
      have hbel := below_alloc HBw7.out (.cells #[.int .i64 o.ix, .int .i64 o.v, .string o.salt, .slice o.A o.p.length o.c] 32)
      have hpat := HPO.out.below (below_alloc (Below.refl _ _) (.cells #[.int .i64 o.ix, .int .i64 o.v, .string o.salt, .slice o.A o.p.length o.c] 32))
      generalize w7.alloc (.cells #[.int .i64 o.ix, .int .i64 o.v, .string o.salt, .slice o.A o.p.length o.c] 32) = w8 at *
      generalize w7.heap.size = gw8 at *
      have HCw8 := Lib.hid hblk
      have HBw8 := Lib.hid hbel
      have HPw8 := Lib.hid hpat
      clear hblk hbel hS3 hpat
      have HV8 := Lib.hid (HV6.out.below HBw8.out)
      have HBX8 := Lib.hid HV8.out.b
      have HC68 : Hid (Blk w8 wr.heap.size 29 #[.string ca, .string cb]) := Lib.hid ((HBw8.out.block _ HCw6.out.lt).trans HCw6.out)
      clear HCM HOP
      generalize wr.heap.size = gw6 at *
      have HFAL : Hid ((b1 = false ∨ b2 = false) → l.all (okK l.length need i) = false) := Lib.hid (fun h => by
        refine all_false_of _ l k x HX.out ?_
        cases b1 with
        | false => unfold okK; rw [HB1.out]; rfl
        | true =>
          rcases h with h | h
          · cases h
          · have h1 := HB1.out
            have h2 := HB2.out
            rw [h] at h2
            unfold dvB at h1
            rw [Bool.and_eq_true] at h1
            rw [h1.1, Bool.true_and] at h2
            unfold okK
            rw [h2, Bool.and_false])
      by_cases hbb : b1 = true ∧ b2 = true
      case neg =>
        have hal := HFAL.out (by cases b1 <;> cases b2 <;> simp_all)
        have HALL := Lib.hid hal
        clear hal
        obtain ⟨CA, cc, rfl, -, -, -⟩ := Rd.of_own HV8.out.rc
        obtain ⟨OA, oc, rfl, -, -, -⟩ := Rd.of_own HV8.out.ro
        obtain ⟨KA, kc, rfl, -, -, -⟩ := Rd.of_own HV8.out.rk
        have n0 := HV8.out.n.of_cell (i := 0) rfl
        have n1 := HV8.out.n.of_cell (i := 1) rfl
        have n2 := HV8.out.n.of_cell (i := 2) rfl
        have nl := HV8.out.n.lt
        have HBK := Lib.hid HV8.out.r
        have hbk := Blk.rowK HBK.out #[.slice CA k cc, .slice OA k oc, .slice KA k kc]
        have hbel := below_setRow HBX8.out (Nat.le_refl _) #[.slice CA k cc, .slice OA k oc, .slice KA k kc]
        obtain ⟨wz, hwz⟩ : ∃ wz, w8.setRow w.heap.size #[.slice CA k cc, .slice OA k oc, .slice KA k kc] = wz := ⟨_, rfl⟩
        rw [hwz] at hbk hbel
        have cc0 := hbk.of_cell (i := 0) rfl
        have cc1 := hbk.of_cell (i := 1) rfl
        have cc2 := hbk.of_cell (i := 2) rfl
        have hlz := hbk.lt
        have HBEL := Lib.hid hbel
        clear hbk hbel
        have hbb' : b1 = false ∨ (b1 = true ∧ b2 = false) := by cases b1 <;> cases b2 <;> simp_all
        clear hbb
        rcases hbb' with rfl | ⟨rfl, rfl⟩
        · have q1 : 1 = e1 := HE1.out
          subst q1
          go_wp2_with (refine wpList_store_row rfl 69 (.tmp 6) (.tmp 67) rfl w.heap.size #[.slice CA k cc, .slice OA k oc, .slice KA k kc] rfl rfl 69 #[.slice none 0 0, .slice none 0 0, .slice none 0 0] HBK.out size_nt rfl (by simp [Value.oneCell']) ?_)
          try rw [hwz]
          go_wp2
          exact bodyPost_ret (v := .tuple #[.agg #[.slice CA k cc, .slice OA k oc, .slice KA k kc], .bool false]) (by simp [results, Tryz.results34, go_sem, cc0, cc1, cc2, hlz]) rfl ⟨HBEL.out, .inl ⟨HALL.out, _, _, _, _, _, _, _, rfl⟩⟩
        · have q1 : 0 = e1 := HE1.out
          have q2 : 1 = e2 := HE2.out
          subst q1 q2
          go_wp2_with (refine wpList_store_row rfl 69 (.tmp 6) (.tmp 67) rfl w.heap.size #[.slice CA k cc, .slice OA k oc, .slice KA k kc] rfl rfl 69 #[.slice none 0 0, .slice none 0 0, .slice none 0 0] HBK.out size_nt rfl (by simp [Value.oneCell']) ?_)
          try rw [hwz]
          go_wp2
          exact bodyPost_ret (v := .tuple #[.agg #[.slice CA k cc, .slice OA k oc, .slice KA k kc], .bool false]) (by simp [results, Tryz.results34, go_sem, cc0, cc1, cc2, hlz]) rfl ⟨HBEL.out, .inl ⟨HALL.out, _, _, _, _, _, _, _, rfl⟩⟩
      case pos =>
      obtain ⟨rfl, rfl⟩ := hbb
      have q1 : 0 = e1 := HE1.out
      have q2 : 0 = e2 := HE2.out
      subst q1 q2
      have HOK : Hid (okK l.length need i x = true) := Lib.hid (by
        have h2 := HB2.out
        rw [Bool.and_eq_true] at h2
        unfold okK
        rw [HB1.out, h2.2]; rfl)
      have HKE : Hid (∀ j, j < l.length → ∀ W, Below w.heap.size w W → Calls Tryz.prog 21 #[.slice x.SA x.seeds.length x.sc, .int .i64 need, .int .i64 l.length, .slice x.RA x.random.length x.rc, .int .i64 i, .int .i64 j] W fun e w' => ∃ q : Kp, e = .returned (.tuple #[.agg #[.int .i64 q.ix, .int .i64 q.s.1, .int .i64 q.s.2, .slice q.A q.p.length q.c], .int .i64 0]) ∧ (∃ A c, q = kpOf x need.toNat l.length i.toNat j A c) ∧ PathIn w' q.A q.p ∧ Below W.heap.size W w') := Lib.hid (fun j hj W hW => by
        have h := HIX.out W hW
        have hdv := dvB_nosalt HB1.out
        obtain ⟨n', m', hn, hm, -⟩ := DivOk.of hdv
        have h2 := HB2.out
        rw [Bool.and_eq_true] at h2
        have hi := of_decide_eq_true h2.2
        have hne : ((need.toNat : Nat) : Int) = need := by omega
        have hie : ((i.toNat : Nat) : Int) = i := by omega
        have := kkeep_ok x.SA x.sc x.seeds need.toNat l.length x.RA x.rc x.random i.toNat j W h.s h.r h.rc h.rcm (by rw [hne]; exact hdv) (by omega) hj (HT.out W hW)
        rw [hne, hie] at this
        refine this.mono ?_
        rintro e w' ⟨A', c', rfl, hc, hp, hb⟩
        refine ⟨kpOf x need.toNat l.length i.toNat j A' c', ?_, ⟨A', c', rfl⟩, hp, hb⟩
        unfold kpOf
        rw [hie])
      clear HFAL
      go_wp2_with fail
      go_loopw [14, 15, 16, 17] (fun u14 u15 u16 u17 wr => ∃ (j : Nat) (ls : List Kp), j ≤ l.length ∧ u15 = .int .i64 j ∧ Below w8.heap.size w8 wr ∧ wr.ownsRow w8.heap.size 50 4 u14 j (ls.flatMap kpC) ∧ KpsOk x need.toNat l.length i.toNat j ls ∧ ∀ k, k ∈ ls → PathIn wr k.A k.p) (fun u14 u15 u16 u17 _ => l.length - (intOf u15).toNat)
      case atStart => exact ⟨0, [], Nat.zero_le _, rfl, Below.refl _ _, World.ownsRow_nil _ _ _ _, ⟨rfl, fun q hq => (by omega)⟩, fun k hk => (by cases hk)⟩
      case round =>
      obtain ⟨j, ls, hj, rfl, hb8, hrow, hkps, hpat⟩ := hrel
      have HB8q := Lib.hid hb8
      have HBXq := Lib.hid (below_trans HBX8.out hb8)
      have HRq := Lib.hid hrow
      have HKS := Lib.hid hkps
      have HPS := Lib.hid hpat
      clear hb8 hrow hkps hpat
      by_cases hlj : j < l.length
      case neg =>
        obtain rfl : j = l.length := by omega
        have hv := HV8.out.below HB8q.out
        obtain ⟨AS, cS, rfl, -, -, hrS⟩ := Rd.of_own HRq.out
        have HM0 : Hid (Mid w w0 wr uc uo uk k k k (((l.take k).map (cmK l.length need)).flatMap cmC) (os.flatMap ogC) (ks.flatMap kwC) os ks o ⟨AS, cS, ls⟩) := Lib.hid ⟨hv.b, hv.r, hv.n, hv.rc, hv.ro, hv.rk, hv.mem, HPw8.out.below HB8q.out, ⟨by unfold RowOf; rw [HKS.out.1]; exact hrS, own_typed HRq.out, HPS.out⟩⟩
        clear hv hrS
        have HCq : Hid (Blk wr gw6 29 #[.string ca, .string cb]) := Lib.hid ((HB8q.out.block _ HC68.out.lt).trans HC68.out)
        have HGq : Hid (Blk wr gw8 32 #[.int .i64 o.ix, .int .i64 o.v, .string o.salt, .slice o.A o.p.length o.c]) := Lib.hid ((HB8q.out.block _ HCw8.out.lt).trans HCw8.out)
        have n0 := HM0.out.n.of_cell (i := 0) rfl
        have nl := HM0.out.n.lt
        have c0 := HCq.out.of_cell (i := 0) rfl
        have c1 := HCq.out.of_cell (i := 1) rfl
        have cl := HCq.out.lt
        have hsz := HM0.out.b.size
        go_wp2_with (at_builtin; refine wpList_app _ rfl (.tmp 101) (.tmp 103) 55 55 rfl w0.heap.size 29 29 ic _ 2 32 Tryz.underlying55 Tryz.underlying55 HIC.out.1 HIC.out.2.1 HIC.out.2.2.1 HIC.out.2.2.2 rfl (by omega) _ k _ rfl (HM0.out.rc.alloc _) _ 1 1 [.string ca, .string cb] rfl (Rd_new wr #[.string ca, .string cb] _ 2 1 _ rfl rfl) (by simp [Value.oneCell']) (by simp only [maxLen]; omega) (by omega) (by have := HZ0.out; simp; omega) ?_)
        try clear n0
        try clear nl
        try clear c0
        try clear c1
        try clear cl
        try clear hsz
        intro v0 w11 hown0 hg0
        obtain ⟨B0, b0, rfl, -, -, -⟩ := Rd.of_own hown0
        have M1 := HM0.out.below (below_alloc (Below.refl _ _) (.cells #[.string ca, .string cb] 29))
        have hn1 := M1.blkC HZ0.out hg0
        have M2 := M1.stepC HZ0.out hown0 hg0
        have G1 := HGq.out.alloc (.cells #[.string ca, .string cb] 29)
        have G2 := (step_typed M1.rc hg0 hn1 (T := 32) (by decide) (by decide) 0 (.slice B0 (k + 1) b0) _ _ G1).trans G1
        have d0 := hn1.of_cell (i := 0) rfl
        have d1 := hn1.frozen 0
        have d2 := hn1.lt
        obtain ⟨w12, hw12⟩ : ∃ w12, w11.setCell ⟨w.heap.size + 1, 0, none⟩ (.slice B0 (k + 1) b0) = w12 := ⟨_, rfl⟩
        rw [hw12] at M2 G2
        have HM2 := Lib.hid M2
        have HGq2 : Hid (Blk _ _ 32 _) := Lib.hid G2
        clear G1 G2
        clear M1 M2 hn1 hown0 hg0
        have n1 := HM2.out.n.of_cell (i := 1) rfl
        have nl := HM2.out.n.lt
        have g0 := HGq2.out.of_cell (i := 0) rfl
        have g1 := HGq2.out.of_cell (i := 1) rfl
        have g2 := HGq2.out.of_cell (i := 2) rfl
        have g3 := HGq2.out.of_cell (i := 3) rfl
        have gl := HGq2.out.lt
        have hsz := HM2.out.b.size
        go_wp2_with (at_builtin; refine wpList_app _ rfl (.tmp 107) (.tmp 109) 56 56 rfl w0.heap.size 32 32 io _ 4 56 Tryz.underlying56 Tryz.underlying56 HIO.out.1 HIO.out.2.1 HIO.out.2.2.1 HIO.out.2.2.2 rfl (by omega) _ k _ rfl (HM2.out.ro.alloc _) _ 1 1 [.int .i64 o.ix, .int .i64 o.v, .string o.salt, .slice o.A o.p.length o.c] rfl (Rd_new w12 #[.int .i64 o.ix, .int .i64 o.v, .string o.salt, .slice o.A o.p.length o.c] _ 4 1 _ rfl rfl) (by simp [Value.oneCell']) (by simp only [maxLen]; omega) (by omega) (by have := HZ0.out; simp; omega) ?_)
        try clear n1
        try clear nl
        try clear g0
        try clear g1
        try clear g2
        try clear g3
        try clear gl
        try clear hsz
        try clear d0
        try clear d1
        try clear d2
        try clear hw12
        intro v1 w13 hown1 hg1
        obtain ⟨B1, b1, rfl, -, -, -⟩ := Rd.of_own hown1
        have M1 := HM2.out.below (below_alloc (Below.refl _ _) (.cells #[.int .i64 o.ix, .int .i64 o.v, .string o.salt, .slice o.A o.p.length o.c] 32))
        have hn1 := M1.blkO HZ0.out hg1
        have M2 := M1.stepO HZ0.out hown1 hg1
        have d0 := hn1.of_cell (i := 1) rfl
        have d1 := hn1.frozen 1
        have d2 := hn1.lt
        obtain ⟨w14, hw14⟩ : ∃ w14, w13.setCell ⟨w.heap.size + 1, 1, none⟩ (.slice B1 (k + 1) b1) = w14 := ⟨_, rfl⟩
        rw [hw14] at M2
        have HM4 := Lib.hid M2
        clear M1 M2 hn1 hown1 hg1
        have n2 := HM4.out.n.of_cell (i := 2) rfl
        have nl := HM4.out.n.lt
        have hsz := HM4.out.b.size
        go_wp2_with (at_builtin; refine wpList_app _ rfl (.tmp 113) (.tmp 115) 57 57 rfl w0.heap.size 33 33 ik _ 1 24 Tryz.underlying57 Tryz.underlying57 HIK.out.1 HIK.out.2.1 HIK.out.2.2.1 HIK.out.2.2.2 rfl (by omega) _ k _ rfl (HM4.out.rk.alloc _) _ 1 1 [.slice AS l.length cS] rfl (Rd_new w14 #[.slice AS l.length cS] _ 1 1 _ rfl rfl) (by simp [Value.oneCell']) (by simp only [maxLen]; omega) (by omega) (by have := HZ0.out; simp; omega) ?_)
        try clear n2
        try clear nl
        try clear hsz
        try clear d0
        try clear d1
        try clear d2
        try clear hw14
        intro v2 w15 hown2 hg2
        obtain ⟨B2, b2, rfl, -, -, -⟩ := Rd.of_own hown2
        have M1 := HM4.out.below (below_alloc (Below.refl _ _) (.cells #[.slice AS l.length cS] 33))
        have hn1 := M1.blkK HZ0.out hg2
        have M2 := M1.stepK HZ0.out hown2 hg2
        have d0 := hn1.of_cell (i := 2) rfl
        have d1 := hn1.frozen 2
        have d2 := hn1.lt
        obtain ⟨w16, hw16⟩ : ∃ w16, w15.setCell ⟨w.heap.size + 1, 2, none⟩ (.slice B2 (k + 1) b2) = w16 := ⟨_, rfl⟩
        rw [hw16] at M2
        have HM6 := Lib.hid M2
        clear M1 M2 hn1 hown2 hg2
        have HN : Hid (NightInv l need i w w0 w16 (k + 1) (.slice B0 (k + 1) b0) (.slice B1 (k + 1) b1) (.slice B2 (k + 1) b2) (os ++ [o]) (ks ++ [⟨AS, cS, ls⟩])) := Lib.hid (HV8.out.next (by first | (rw [List.map_take, HCAB.out.1, HCAB.out.2]; exact HM6.out) | (rw [List.map_take, HCAB.out.1, HCAB.out.2, HKS.out.1]; exact HM6.out)) HX.out (by first | exact HOO.out.1 rfl | exact HOO.out.1 trivial) HKS.out HOK.out HOO.out.2)
        clear HM6 HM4 HM2 HM0
        go_wp2
        go_roundw
        case rel => exact ⟨k + 1, _, _, _, os ++ [o], ks ++ [⟨AS, cS, ls⟩], by omega, by go_num, HN.out⟩
        case measure => simp [intOf]; omega
      case pos =>
      have hji : (j : Int) < (l.length : Int) := by omega
      go_wp2_with fail
      refine wp_region_held_drew (S := fun W => Below wr.heap.size wr W) (by kernel_rfl) ((Below.refl _ _).drew) (fun hS0 => ?_)
      refine wpAnyH_take (i := 0) (v := ?_) rfl (by kernel_rfl) (by kernel_rfl) (by kernel_rfl) (fun _ _ _ h => h) (Or.inl ⟨by kernel_rfl, ?hy⟩) hS0 ?rest
      case hy => (intro W hSw; clear hSw; go_simp; with_reducible rfl)
      case rest =>
      refine wpAnyH_take (i := 1) (v := ?_) rfl (by kernel_rfl) (by kernel_rfl) (by kernel_rfl) (fun _ _ _ h => h) (Or.inl ⟨by kernel_rfl, ?hy⟩) hS0 ?rest
      case hy => (intro W hSw; clear hSw; go_simp; with_reducible rfl)
      case rest =>
      refine wpAnyH_take (i := 2) (v := ?_) rfl (by kernel_rfl) (by kernel_rfl) (by kernel_rfl) (fun _ _ _ h => h) (Or.inl ⟨by kernel_rfl, ?hy⟩) hS0 ?rest
      case hy => (intro W hSw; clear hSw; go_simp; with_reducible rfl)
      case rest =>
      refine wpAnyH_take (i := 3) (v := ?_) rfl (by kernel_rfl) (by kernel_rfl) (by kernel_rfl) (fun _ _ _ h => h) (Or.inl ⟨by kernel_rfl, ?hy⟩) hS0 ?rest
      case hy => (intro W hSw; clear hSw; go_simp; with_reducible rfl)
      case rest =>
      refine wpAnyH_take (i := 4) (v := ?_) rfl (by kernel_rfl) (by kernel_rfl) (by kernel_rfl) (fun _ _ _ h => h) (Or.inl ⟨by kernel_rfl, ?hy⟩) hS0 ?rest
      case hy => (intro W hSw; obtain ⟨b_, f_, he_, c0, c1, c2, cl⟩ := HC.out W (below_trans HBXq.out hSw); cases he_; clear hSw; go_simp; with_reducible rfl)
      case rest =>
      refine wpAnyH_take (i := 5) (v := ?_) rfl (by kernel_rfl) (by kernel_rfl) (by kernel_rfl) (fun _ _ _ h => h) (Or.inl ⟨by kernel_rfl, ?hy⟩) hS0 ?rest
      case hy => (intro W hSw; clear hSw; go_simp; with_reducible rfl)
      case rest =>
      try go_simp
      refine wpAnyH_take (i := 6) (v := ?_) rfl (by kernel_rfl) (by kernel_rfl) (by kernel_rfl) (fun _ _ _ h => h) (Or.inl ⟨by kernel_rfl, ?hy⟩) hS0 ?rest
      case hy => (intro W hSw; clear hSw; go_simp; with_reducible rfl)
      case rest =>
      refine wpAnyH_take (i := 7) (v := ?_) rfl (by kernel_rfl) (by kernel_rfl) (by kernel_rfl) (fun _ _ _ h => h) (Or.inl ⟨by kernel_rfl, ?hy⟩) hS0 ?rest
      case hy => (intro W hSw; clear hSw; go_simp; with_reducible rfl)
      case rest =>
      refine wpAnyH_take (i := 8) (v := ?_) rfl (by kernel_rfl) (by kernel_rfl) (by kernel_rfl) (fun _ _ _ h => h) (Or.inl ⟨by kernel_rfl, ?hy⟩) hS0 ?rest
      case hy => (intro W hSw; clear hSw; go_simp; with_reducible rfl)
      case rest =>
      refine wpAnyH_take (i := 9) (v := ?_) rfl (by kernel_rfl) (by kernel_rfl) (by kernel_rfl) (fun _ _ _ h => h) (Or.inl ⟨by kernel_rfl, ?hy⟩) hS0 ?rest
      case hy => (intro W hSw; clear hSw; go_simp; with_reducible rfl)
      case rest =>
      refine wpAnyH_take (i := 10) (v := ?_) rfl (by kernel_rfl) (by kernel_rfl) (by kernel_rfl) (fun _ _ _ h => h) (Or.inl ⟨by kernel_rfl, ?hy⟩) hS0 ?rest
      case hy => (intro W hSw; clear hSw; go_simp; with_reducible rfl)
      case rest =>
      refine wpAnyH_take (i := 11) (v := ?_) rfl (by kernel_rfl) (by kernel_rfl) (by kernel_rfl) (fun _ _ _ h => h) (Or.inl ⟨by kernel_rfl, ?hy⟩) hS0 ?rest
      case hy => (intro W hSw; clear hSw; go_simp; with_reducible rfl)
      case rest =>
      try go_simp
      refine wpAnyH_take (i := 12) (v := ?_) rfl (by kernel_rfl) (by kernel_rfl) (by kernel_rfl) (fun _ _ _ h => h) (Or.inl ⟨by kernel_rfl, ?hy⟩) hS0 ?rest
      case hy => (intro W hSw; obtain ⟨b_, f_, he_, c0, c1, c2, cl⟩ := HC.out W (below_trans HBXq.out hSw); cases he_; clear hSw; go_simp; with_reducible rfl)
      case rest =>
      refine wpAnyH_take (i := 13) (v := ?_) rfl (by kernel_rfl) (by kernel_rfl) (by kernel_rfl) (fun _ _ _ h => h) (Or.inl ⟨by kernel_rfl, ?hy⟩) hS0 ?rest
      case hy => (intro W hSw; clear hSw; go_simp; with_reducible rfl)
      case rest =>
      refine wpAnyH_take (i := 14) (v := ?_) rfl (by kernel_rfl) (by kernel_rfl) (by kernel_rfl) (fun _ _ _ h => h) (Or.inl ⟨by kernel_rfl, ?hy⟩) hS0 ?rest
      case hy => (intro W hSw; clear hSw; go_simp; with_reducible rfl)
      case rest =>
      refine wpAnyH_ready (rs := [15, 19]) (by kernel_rfl) (by simp) ?_
      refine AllReadyH.cons rfl (fun K hK => ?_) (AllReadyH.cons rfl (fun K hK => ?_) (AllReadyH.nil))
      · skip
        go_simp
        refine (HKE.out j hlj _ (below_trans HBXq.out hS0)).mono ?_
        rintro e w9 ⟨q, rfl, hqq, hpq, hb⟩
        have HQQ := Lib.hid hqq
        have HPQ := Lib.hid hpq
        clear hqq hpq
        have HBw9 := Lib.hid (below_trans hS0 hb)
        go_simp
        refine hK.out _ _ HBw9.out (fun hS1 => ?_)
        clear hK K hb
        refine wpAnyH_take (i := 16) (v := ?_) rfl (by kernel_rfl) (by kernel_rfl) (by kernel_rfl) (fun _ _ _ h => h) (Or.inl ⟨by kernel_rfl, ?hy⟩) hS1 ?rest
        case hy => (intro W hSw; clear hSw; go_simp; with_reducible rfl)
        case rest =>
        refine wpAnyH_take (i := 17) (v := ?_) rfl (by kernel_rfl) (by kernel_rfl) (by kernel_rfl) (fun _ _ _ h => h) (Or.inl ⟨by kernel_rfl, ?hy⟩) hS1 ?rest
        case hy => (intro W hSw; clear hSw; go_simp; with_reducible rfl)
        case rest =>
        refine wpAnyH_take (i := 18) (v := ?_) rfl (by kernel_rfl) (by kernel_rfl) (by kernel_rfl) (fun _ _ _ h => h) (Or.inl ⟨by kernel_rfl, ?hy⟩) hS1 ?rest
        case hy => (intro W hSw; clear hSw; go_simp; with_reducible rfl)
        case rest =>
        try go_simp
        refine wpAnyH_ready (rs := [19]) (by kernel_rfl) (by simp) ?_
        refine AllReadyH.cons rfl (fun K hK => ?_) (AllReadyH.nil)
        go_simp
        refine hK.out _ _ (below_alloc HBw9.out _) (fun hS2 => ?_)
        clear hK K
        refine wpAnyH_ready (rs := [20]) (by kernel_rfl) (by simp) ?_
        refine AllReadyH.cons rfl (fun K hK => ?_) (AllReadyH.nil)
        go_simp
        refine hK.out _ _ (below_alloc HBw9.out _) (fun hS3 => ?_)
        clear hK K
        refine wpAnyH_take (i := 21) (v := ?_) rfl (by kernel_rfl) (by kernel_rfl) (by kernel_rfl) (fun _ _ _ h => h) (Or.inl ⟨by kernel_rfl, ?hy⟩) hS3 ?rest
        case hy => (intro W hSw; clear hSw; go_simp; with_reducible rfl)
        case rest =>
        refine wpAnyH_done (by kernel_rfl) ?_ _
        have hblk : Blk (w9.alloc (.cells #[.int .i64 q.ix, .int .i64 q.s.1, .int .i64 q.s.2, .slice q.A q.p.length q.c] 50)) w9.heap.size 50 #[.int .i64 q.ix, .int .i64 q.s.1, .int .i64 q.s.2, .slice q.A q.p.length q.c] := Blk.new _ _ _ _ rfl
        have hbel := below_alloc HBw9.out (.cells #[.int .i64 q.ix, .int .i64 q.s.1, .int .i64 q.s.2, .slice q.A q.p.length q.c] 50)
        have hpat := HPQ.out.below (below_alloc (Below.refl _ _) (.cells #[.int .i64 q.ix, .int .i64 q.s.1, .int .i64 q.s.2, .slice q.A q.p.length q.c] 50))
        generalize w9.alloc (.cells #[.int .i64 q.ix, .int .i64 q.s.1, .int .i64 q.s.2, .slice q.A q.p.length q.c] 50) = w10 at *
        generalize w9.heap.size = gw10 at *
        have HCw10 := Lib.hid hblk
        have HBw10 := Lib.hid hbel
        have HPw10 := Lib.hid hpat
        clear hblk hbel hS3 hpat
        have HRw10 := Lib.hid (row_below HRq.out HBw10.out)
        have f0 := HCw10.out.of_cell (i := 0) rfl
        have f1 := HCw10.out.of_cell (i := 1) rfl
        have f2 := HCw10.out.of_cell (i := 2) rfl
        have f3 := HCw10.out.of_cell (i := 3) rfl
        have fl := HCw10.out.lt
        have hsz : w8.heap.size ≤ w10.heap.size := Nat.le_trans HB8q.out.size HBw10.out.size
        go_wp2_with (at_builtin; refine wpList_app _ rfl (.tmp 96) (.tmp 98) 33 33 rfl w8.heap.size 50 50 ip _ 4 48 Tryz.underlying33 Tryz.underlying33 HIP.out.1 HIP.out.2.1 HIP.out.2.2.1 HIP.out.2.2.2 rfl (by omega) _ j _ rfl (HRw10.out.alloc _) _ 1 1 [.int .i64 q.ix, .int .i64 q.s.1, .int .i64 q.s.2, .slice q.A q.p.length q.c] rfl (Rd_new w10 #[.int .i64 q.ix, .int .i64 q.s.1, .int .i64 q.s.2, .slice q.A q.p.length q.c] _ 4 1 _ rfl rfl) (by simp [Value.oneCell']) (by simp only [maxLen]; omega) (by omega) (by simp; omega) ?_)
        intro v1 w11 hown hg
        have HB11 : Hid (Below w8.heap.size w8 w11) := Lib.hid ((below_alloc (below_trans HB8q.out HBw10.out) _).grown hg (by simp; omega) (fun j hj => (HRw10.out.lt j hj).1))
        have HP11 : Hid (∀ k, k ∈ ls ++ [q] → PathIn w11 k.A k.p) := Lib.hid (fun k hk => by
          have h1 : PathIn w10 k.A k.p := by
            rcases List.mem_append.1 hk with h | h
            · exact (HPS.out k h).below HBw10.out
            · rw [List.mem_singleton.1 h]; exact HPw10.out
          exact (h1.below (below_alloc (Below.refl _ _) _)).keep (fun a cs _ hcs => grown_typed (HRw10.out.alloc _) hg (by decide) _ cs hcs))
        have e5 : ls.flatMap kpC ++ [.int .i64 q.ix, .int .i64 q.s.1, .int .i64 q.s.2, .slice q.A q.p.length q.c] = (ls ++ [q]).flatMap kpC := by rw [List.flatMap_append]; rfl
        rw [e5] at hown
        have HO11 := Lib.hid hown
        clear hown hg e5 f0 f1 f2 f3 fl
        go_wp2
        go_roundw
        case rel => exact ⟨j + 1, ls ++ [q], by omega, by go_num, HB11.out, HO11.out, HKS.out.snoc HQQ.out, HP11.out⟩
        case measure => simp [intOf]; omega
      · skip
        go_simp
        refine hK.out _ _ (below_alloc (Below.refl _ _).drew _) (fun hS2 => ?_)
        have HGA : Hid (Blk ((World.drew wr).alloc (.cells #[.int .i64 0, .int .i64 0, .int .i64 0, .slice none 0 0] 50)) wr.heap.size 50 #[.int .i64 0, .int .i64 0, .int .i64 0, .slice none 0 0]) := Lib.hid (Blk.new _ _ _ _ rfl)
        clear hK K
        refine wpAnyH_ready (rs := [15]) (by kernel_rfl) (by simp) ?_
        refine AllReadyH.cons rfl (fun K hK => ?_) (AllReadyH.nil)
        go_simp
        refine (HKE.out j hlj _ (below_trans HBXq.out hS2)).mono ?_
        rintro e w9 ⟨q, rfl, hqq, hpq, hb⟩
        have HQQ := Lib.hid hqq
        have HPQ := Lib.hid hpq
        clear hqq hpq
        have HBw9 := Lib.hid (below_trans hS2 hb)
        have HGw9 : Hid (Blk w9 wr.heap.size 50 #[.int .i64 0, .int .i64 0, .int .i64 0, .slice none 0 0]) := Lib.hid ((hb.block _ HGA.out.lt).trans HGA.out)
        go_simp
        refine hK.out _ _ HBw9.out (fun hS1 => ?_)
        clear hK K hb
        refine wpAnyH_take (i := 16) (v := ?_) rfl (by kernel_rfl) (by kernel_rfl) (by kernel_rfl) (fun _ _ _ h => h) (Or.inl ⟨by kernel_rfl, ?hy⟩) hS1 ?rest
        case hy => (intro W hSw; clear hSw; go_simp; with_reducible rfl)
        case rest =>
        refine wpAnyH_take (i := 17) (v := ?_) rfl (by kernel_rfl) (by kernel_rfl) (by kernel_rfl) (fun _ _ _ h => h) (Or.inl ⟨by kernel_rfl, ?hy⟩) hS1 ?rest
        case hy => (intro W hSw; clear hSw; go_simp; with_reducible rfl)
        case rest =>
        refine wpAnyH_take (i := 18) (v := ?_) rfl (by kernel_rfl) (by kernel_rfl) (by kernel_rfl) (fun _ _ _ h => h) (Or.inl ⟨by kernel_rfl, ?hy⟩) hS1 ?rest
        case hy => (intro W hSw; clear hSw; go_simp; with_reducible rfl)
        case rest =>
        try go_simp
        refine wpAnyH_ready (rs := [20]) (by kernel_rfl) (by simp) ?_
        refine AllReadyH.cons rfl (fun K hK => ?_) (AllReadyH.nil)
        have f0 := HGw9.out.of_cell (i := 0) rfl
        have e0_ := HGw9.out.frozen 0
        have f1 := HGw9.out.of_cell (i := 1) rfl
        have e1_ := HGw9.out.frozen 1
        have f2 := HGw9.out.of_cell (i := 2) rfl
        have e2_ := HGw9.out.frozen 2
        have f3 := HGw9.out.of_cell (i := 3) rfl
        have e3_ := HGw9.out.frozen 3
        have fl := HGw9.out.lt
        go_simp
        refine hK.out _ _ ((((HBw9.out.setCell (Nat.le_refl _) _).setCell (Nat.le_refl _) _).setCell (Nat.le_refl _) _).setCell (Nat.le_refl _) _) (fun hS3 => ?_)
        clear hK K fl f0 e0_ f1 e1_ f2 e2_ f3 e3_
        refine wpAnyH_take (i := 21) (v := ?_) rfl (by kernel_rfl) (by kernel_rfl) (by kernel_rfl) (fun _ _ _ h => h) (Or.inl ⟨by kernel_rfl, ?hy⟩) hS3 ?rest
        case hy => (intro W hSw; clear hSw; go_simp; with_reducible rfl)
        case rest =>
        refine wpAnyH_done (by kernel_rfl) ?_ _
        have hblk : Blk ((((w9.setCell ⟨wr.heap.size, 0, none⟩ (.int .i64 q.ix)).setCell ⟨wr.heap.size, 1, none⟩ (.int .i64 q.s.1)).setCell ⟨wr.heap.size, 2, none⟩ (.int .i64 q.s.2)).setCell ⟨wr.heap.size, 3, none⟩ (.slice q.A q.p.length q.c)) wr.heap.size 50 #[.int .i64 q.ix, .int .i64 q.s.1, .int .i64 q.s.2, .slice q.A q.p.length q.c] := ((((HGw9.out.set 0 (.int .i64 q.ix)).set 1 (.int .i64 q.s.1)).set 2 (.int .i64 q.s.2)).set 3 (.slice q.A q.p.length q.c))
        have hbel := ((((HBw9.out.setCell (p := ⟨wr.heap.size, 0, none⟩) (Nat.le_refl _) (.int .i64 q.ix)).setCell (p := ⟨wr.heap.size, 1, none⟩) (Nat.le_refl _) (.int .i64 q.s.1)).setCell (p := ⟨wr.heap.size, 2, none⟩) (Nat.le_refl _) (.int .i64 q.s.2)).setCell (p := ⟨wr.heap.size, 3, none⟩) (Nat.le_refl _) (.slice q.A q.p.length q.c))
        have hpat := ((((HPQ.out.setBlk HGw9.out (by decide) 0 (.int .i64 q.ix)).setBlk (HGw9.out.set 0 (.int .i64 q.ix)) (by decide) 1 (.int .i64 q.s.1)).setBlk ((HGw9.out.set 0 (.int .i64 q.ix)).set 1 (.int .i64 q.s.1)) (by decide) 2 (.int .i64 q.s.2)).setBlk (((HGw9.out.set 0 (.int .i64 q.ix)).set 1 (.int .i64 q.s.1)).set 2 (.int .i64 q.s.2)) (by decide) 3 (.slice q.A q.p.length q.c))
        generalize ((((w9.setCell ⟨wr.heap.size, 0, none⟩ (.int .i64 q.ix)).setCell ⟨wr.heap.size, 1, none⟩ (.int .i64 q.s.1)).setCell ⟨wr.heap.size, 2, none⟩ (.int .i64 q.s.2)).setCell ⟨wr.heap.size, 3, none⟩ (.slice q.A q.p.length q.c)) = w10 at *
        have HCw10 := Lib.hid hblk
        have HBw10 := Lib.hid hbel
        have HPw10 := Lib.hid hpat
        clear hblk hbel hS3 hpat
        have HRw10 := Lib.hid (row_below HRq.out HBw10.out)
        have f0 := HCw10.out.of_cell (i := 0) rfl
        have f1 := HCw10.out.of_cell (i := 1) rfl
        have f2 := HCw10.out.of_cell (i := 2) rfl
        have f3 := HCw10.out.of_cell (i := 3) rfl
        have fl := HCw10.out.lt
        have hsz : w8.heap.size ≤ w10.heap.size := Nat.le_trans HB8q.out.size HBw10.out.size
        go_wp2_with (at_builtin; refine wpList_app _ rfl (.tmp 96) (.tmp 98) 33 33 rfl w8.heap.size 50 50 ip _ 4 48 Tryz.underlying33 Tryz.underlying33 HIP.out.1 HIP.out.2.1 HIP.out.2.2.1 HIP.out.2.2.2 rfl (by omega) _ j _ rfl (HRw10.out.alloc _) _ 1 1 [.int .i64 q.ix, .int .i64 q.s.1, .int .i64 q.s.2, .slice q.A q.p.length q.c] rfl (Rd_new w10 #[.int .i64 q.ix, .int .i64 q.s.1, .int .i64 q.s.2, .slice q.A q.p.length q.c] _ 4 1 _ rfl rfl) (by simp [Value.oneCell']) (by simp only [maxLen]; omega) (by omega) (by simp; omega) ?_)
        intro v1 w11 hown hg
        have HB11 : Hid (Below w8.heap.size w8 w11) := Lib.hid ((below_alloc (below_trans HB8q.out HBw10.out) _).grown hg (by simp; omega) (fun j hj => (HRw10.out.lt j hj).1))
        have HP11 : Hid (∀ k, k ∈ ls ++ [q] → PathIn w11 k.A k.p) := Lib.hid (fun k hk => by
          have h1 : PathIn w10 k.A k.p := by
            rcases List.mem_append.1 hk with h | h
            · exact (HPS.out k h).below HBw10.out
            · rw [List.mem_singleton.1 h]; exact HPw10.out
          exact (h1.below (below_alloc (Below.refl _ _) _)).keep (fun a cs _ hcs => grown_typed (HRw10.out.alloc _) hg (by decide) _ cs hcs))
        have e5 : ls.flatMap kpC ++ [.int .i64 q.ix, .int .i64 q.s.1, .int .i64 q.s.2, .slice q.A q.p.length q.c] = (ls ++ [q]).flatMap kpC := by rw [List.flatMap_append]; rfl
        rw [e5] at hown
        have HO11 := Lib.hid hown
        clear hown hg e5 f0 f1 f2 f3 fl
        go_wp2
        go_roundw
        case rel => exact ⟨j + 1, ls ++ [q], by omega, by go_num, HB11.out, HO11.out, HKS.out.snoc HQQ.out, HP11.out⟩
        case measure => simp [intOf]; omega
    · skip
      go_simp
      refine hK.out _ _ (below_alloc (Below.refl _ _).drew _) (fun hS2 => ?_)
      have HGA : Hid (Blk ((World.drew w6).alloc (.cells #[.int .i64 0, .int .i64 0, .string ⟨#[]⟩, .slice none 0 0] 32)) w6.heap.size 32 #[.int .i64 0, .int .i64 0, .string ⟨#[]⟩, .slice none 0 0]) := Lib.hid (Blk.new _ _ _ _ rfl)
      clear hK K
      refine wpAnyH_ready (rs := [11]) (by kernel_rfl) (by simp) ?_
      refine AllReadyH.cons rfl (fun K hK => ?_) (AllReadyH.nil)
      go_simp
      refine (HOP.out _ (below_trans HBX6.out hS2)).mono ?_
      rintro e w7 ⟨o, rfl, hoo, hpo, hpc, hb⟩
      have HOO := Lib.hid (And.intro hoo hpc)
      have HPO := Lib.hid hpo
      clear hoo hpo hpc
      have HBw7 := Lib.hid (below_trans hS2 hb)
      have HGw7 : Hid (Blk w7 w6.heap.size 32 #[.int .i64 0, .int .i64 0, .string ⟨#[]⟩, .slice none 0 0]) := Lib.hid ((hb.block _ HGA.out.lt).trans HGA.out)
      go_simp
      refine hK.out _ _ HBw7.out (fun hS1 => ?_)
      clear hK K hb
      refine wpAnyH_take (i := 12) (v := ?_) rfl (by kernel_rfl) (by kernel_rfl) (by kernel_rfl) (fun _ _ _ h => h) (Or.inl ⟨by kernel_rfl, ?hy⟩) hS1 ?rest
      case hy => (intro W hSw; clear hSw; go_simp; with_reducible rfl)
      case rest =>
      try go_simp
      refine wpAnyH_take (i := 13) (v := ?_) rfl (by kernel_rfl) (by kernel_rfl) (by kernel_rfl) (fun _ _ _ h => h) (Or.inl ⟨by kernel_rfl, ?hy⟩) hS1 ?rest
      case hy => (intro W hSw; clear hSw; go_simp; with_reducible rfl)
      case rest =>
      refine wpAnyH_take (i := 14) (v := ?_) rfl (by kernel_rfl) (by kernel_rfl) (by kernel_rfl) (fun _ _ _ h => h) (Or.inl ⟨by kernel_rfl, ?hy⟩) hS1 ?rest
      case hy => (intro W hSw; clear hSw; go_simp; with_reducible rfl)
      case rest =>
      refine wpAnyH_ready (rs := [16]) (by kernel_rfl) (by simp) ?_
      refine AllReadyH.cons rfl (fun K hK => ?_) (AllReadyH.nil)
      have f0 := HGw7.out.of_cell (i := 0) rfl
      have e0_ := HGw7.out.frozen 0
      have f1 := HGw7.out.of_cell (i := 1) rfl
      have e1_ := HGw7.out.frozen 1
      have f2 := HGw7.out.of_cell (i := 2) rfl
      have e2_ := HGw7.out.frozen 2
      have f3 := HGw7.out.of_cell (i := 3) rfl
      have e3_ := HGw7.out.frozen 3
      have fl := HGw7.out.lt
      go_simp
      refine hK.out _ _ ((((HBw7.out.setCell (Nat.le_refl _) _).setCell (Nat.le_refl _) _).setCell (Nat.le_refl _) _).setCell (Nat.le_refl _) _) (fun hS3 => ?_)
      clear hK K fl f0 e0_ f1 e1_ f2 e2_ f3 e3_
      refine wpAnyH_take (i := 17) (v := ?_) rfl (by kernel_rfl) (by kernel_rfl) (by kernel_rfl) (fun _ _ _ h => h) (Or.inl ⟨by kernel_rfl, ?hy⟩) hS3 ?rest
      case hy => (intro W hSw; clear hSw; go_simp; with_reducible rfl)
      case rest =>
      refine wpAnyH_done (by kernel_rfl) ?_ _
      have hblk : Blk ((((w7.setCell ⟨w6.heap.size, 0, none⟩ (.int .i64 o.ix)).setCell ⟨w6.heap.size, 1, none⟩ (.int .i64 o.v)).setCell ⟨w6.heap.size, 2, none⟩ (.string o.salt)).setCell ⟨w6.heap.size, 3, none⟩ (.slice o.A o.p.length o.c)) w6.heap.size 32 #[.int .i64 o.ix, .int .i64 o.v, .string o.salt, .slice o.A o.p.length o.c] := ((((HGw7.out.set 0 (.int .i64 o.ix)).set 1 (.int .i64 o.v)).set 2 (.string o.salt)).set 3 (.slice o.A o.p.length o.c))
      have hbel := ((((HBw7.out.setCell (p := ⟨w6.heap.size, 0, none⟩) (Nat.le_refl _) (.int .i64 o.ix)).setCell (p := ⟨w6.heap.size, 1, none⟩) (Nat.le_refl _) (.int .i64 o.v)).setCell (p := ⟨w6.heap.size, 2, none⟩) (Nat.le_refl _) (.string o.salt)).setCell (p := ⟨w6.heap.size, 3, none⟩) (Nat.le_refl _) (.slice o.A o.p.length o.c))
      have hpat := ((((HPO.out.setBlk HGw7.out (by decide) 0 (.int .i64 o.ix)).setBlk (HGw7.out.set 0 (.int .i64 o.ix)) (by decide) 1 (.int .i64 o.v)).setBlk ((HGw7.out.set 0 (.int .i64 o.ix)).set 1 (.int .i64 o.v)) (by decide) 2 (.string o.salt)).setBlk (((HGw7.out.set 0 (.int .i64 o.ix)).set 1 (.int .i64 o.v)).set 2 (.string o.salt)) (by decide) 3 (.slice o.A o.p.length o.c))
      generalize ((((w7.setCell ⟨w6.heap.size, 0, none⟩ (.int .i64 o.ix)).setCell ⟨w6.heap.size, 1, none⟩ (.int .i64 o.v)).setCell ⟨w6.heap.size, 2, none⟩ (.string o.salt)).setCell ⟨w6.heap.size, 3, none⟩ (.slice o.A o.p.length o.c)) = w8 at *
      have HCw8 := Lib.hid hblk
      have HBw8 := Lib.hid hbel
      have HPw8 := Lib.hid hpat
      clear hblk hbel hS3 hpat
      have HV8 := Lib.hid (HV6.out.below HBw8.out)
      have HBX8 := Lib.hid HV8.out.b
      have HC68 : Hid (Blk w8 wr.heap.size 29 #[.string ca, .string cb]) := Lib.hid ((HBw8.out.block _ HCw6.out.lt).trans HCw6.out)
      clear HCM HOP
      generalize wr.heap.size = gw6 at *
      have HFAL : Hid ((b1 = false ∨ b2 = false) → l.all (okK l.length need i) = false) := Lib.hid (fun h => by
        refine all_false_of _ l k x HX.out ?_
        cases b1 with
        | false => unfold okK; rw [HB1.out]; rfl
        | true =>
          rcases h with h | h
          · cases h
          · have h1 := HB1.out
            have h2 := HB2.out
            rw [h] at h2
            unfold dvB at h1
            rw [Bool.and_eq_true] at h1
            rw [h1.1, Bool.true_and] at h2
            unfold okK
            rw [h2, Bool.and_false])
      by_cases hbb : b1 = true ∧ b2 = true
      case neg =>
        have hal := HFAL.out (by cases b1 <;> cases b2 <;> simp_all)
        have HALL := Lib.hid hal
        clear hal
        obtain ⟨CA, cc, rfl, -, -, -⟩ := Rd.of_own HV8.out.rc
        obtain ⟨OA, oc, rfl, -, -, -⟩ := Rd.of_own HV8.out.ro
        obtain ⟨KA, kc, rfl, -, -, -⟩ := Rd.of_own HV8.out.rk
        have n0 := HV8.out.n.of_cell (i := 0) rfl
        have n1 := HV8.out.n.of_cell (i := 1) rfl
        have n2 := HV8.out.n.of_cell (i := 2) rfl
        have nl := HV8.out.n.lt
        have HBK := Lib.hid HV8.out.r
        have hbk := Blk.rowK HBK.out #[.slice CA k cc, .slice OA k oc, .slice KA k kc]
        have hbel := below_setRow HBX8.out (Nat.le_refl _) #[.slice CA k cc, .slice OA k oc, .slice KA k kc]
        obtain ⟨wz, hwz⟩ : ∃ wz, w8.setRow w.heap.size #[.slice CA k cc, .slice OA k oc, .slice KA k kc] = wz := ⟨_, rfl⟩
        rw [hwz] at hbk hbel
        have cc0 := hbk.of_cell (i := 0) rfl
        have cc1 := hbk.of_cell (i := 1) rfl
        have cc2 := hbk.of_cell (i := 2) rfl
        have hlz := hbk.lt
        have HBEL := Lib.hid hbel
        clear hbk hbel
        have hbb' : b1 = false ∨ (b1 = true ∧ b2 = false) := by cases b1 <;> cases b2 <;> simp_all
        clear hbb
        rcases hbb' with rfl | ⟨rfl, rfl⟩
        · have q1 : 1 = e1 := HE1.out
          subst q1
          go_wp2_with (refine wpList_store_row rfl 69 (.tmp 6) (.tmp 67) rfl w.heap.size #[.slice CA k cc, .slice OA k oc, .slice KA k kc] rfl rfl 69 #[.slice none 0 0, .slice none 0 0, .slice none 0 0] HBK.out size_nt rfl (by simp [Value.oneCell']) ?_)
          try rw [hwz]
          go_wp2
          exact bodyPost_ret (v := .tuple #[.agg #[.slice CA k cc, .slice OA k oc, .slice KA k kc], .bool false]) (by simp [results, Tryz.results34, go_sem, cc0, cc1, cc2, hlz]) rfl ⟨HBEL.out, .inl ⟨HALL.out, _, _, _, _, _, _, _, rfl⟩⟩
        · have q1 : 0 = e1 := HE1.out
          have q2 : 1 = e2 := HE2.out
          subst q1 q2
          go_wp2_with (refine wpList_store_row rfl 69 (.tmp 6) (.tmp 67) rfl w.heap.size #[.slice CA k cc, .slice OA k oc, .slice KA k kc] rfl rfl 69 #[.slice none 0 0, .slice none 0 0, .slice none 0 0] HBK.out size_nt rfl (by simp [Value.oneCell']) ?_)
          try rw [hwz]
          go_wp2
          exact bodyPost_ret (v := .tuple #[.agg #[.slice CA k cc, .slice OA k oc, .slice KA k kc], .bool false]) (by simp [results, Tryz.results34, go_sem, cc0, cc1, cc2, hlz]) rfl ⟨HBEL.out, .inl ⟨HALL.out, _, _, _, _, _, _, _, rfl⟩⟩
      case pos =>
      obtain ⟨rfl, rfl⟩ := hbb
      have q1 : 0 = e1 := HE1.out
      have q2 : 0 = e2 := HE2.out
      subst q1 q2
      have HOK : Hid (okK l.length need i x = true) := Lib.hid (by
        have h2 := HB2.out
        rw [Bool.and_eq_true] at h2
        unfold okK
        rw [HB1.out, h2.2]; rfl)
      have HKE : Hid (∀ j, j < l.length → ∀ W, Below w.heap.size w W → Calls Tryz.prog 21 #[.slice x.SA x.seeds.length x.sc, .int .i64 need, .int .i64 l.length, .slice x.RA x.random.length x.rc, .int .i64 i, .int .i64 j] W fun e w' => ∃ q : Kp, e = .returned (.tuple #[.agg #[.int .i64 q.ix, .int .i64 q.s.1, .int .i64 q.s.2, .slice q.A q.p.length q.c], .int .i64 0]) ∧ (∃ A c, q = kpOf x need.toNat l.length i.toNat j A c) ∧ PathIn w' q.A q.p ∧ Below W.heap.size W w') := Lib.hid (fun j hj W hW => by
        have h := HIX.out W hW
        have hdv := dvB_nosalt HB1.out
        obtain ⟨n', m', hn, hm, -⟩ := DivOk.of hdv
        have h2 := HB2.out
        rw [Bool.and_eq_true] at h2
        have hi := of_decide_eq_true h2.2
        have hne : ((need.toNat : Nat) : Int) = need := by omega
        have hie : ((i.toNat : Nat) : Int) = i := by omega
        have := kkeep_ok x.SA x.sc x.seeds need.toNat l.length x.RA x.rc x.random i.toNat j W h.s h.r h.rc h.rcm (by rw [hne]; exact hdv) (by omega) hj (HT.out W hW)
        rw [hne, hie] at this
        refine this.mono ?_
        rintro e w' ⟨A', c', rfl, hc, hp, hb⟩
        refine ⟨kpOf x need.toNat l.length i.toNat j A' c', ?_, ⟨A', c', rfl⟩, hp, hb⟩
        unfold kpOf
        rw [hie])
      clear HFAL
      go_wp2_with fail
      go_loopw [14, 15, 16, 17] (fun u14 u15 u16 u17 wr => ∃ (j : Nat) (ls : List Kp), j ≤ l.length ∧ u15 = .int .i64 j ∧ Below w8.heap.size w8 wr ∧ wr.ownsRow w8.heap.size 50 4 u14 j (ls.flatMap kpC) ∧ KpsOk x need.toNat l.length i.toNat j ls ∧ ∀ k, k ∈ ls → PathIn wr k.A k.p) (fun u14 u15 u16 u17 _ => l.length - (intOf u15).toNat)
      case atStart => exact ⟨0, [], Nat.zero_le _, rfl, Below.refl _ _, World.ownsRow_nil _ _ _ _, ⟨rfl, fun q hq => (by omega)⟩, fun k hk => (by cases hk)⟩
      case round =>
      obtain ⟨j, ls, hj, rfl, hb8, hrow, hkps, hpat⟩ := hrel
      have HB8q := Lib.hid hb8
      have HBXq := Lib.hid (below_trans HBX8.out hb8)
      have HRq := Lib.hid hrow
      have HKS := Lib.hid hkps
      have HPS := Lib.hid hpat
      clear hb8 hrow hkps hpat
      by_cases hlj : j < l.length
      case neg =>
        obtain rfl : j = l.length := by omega
        have hv := HV8.out.below HB8q.out
        obtain ⟨AS, cS, rfl, -, -, hrS⟩ := Rd.of_own HRq.out
        have HM0 : Hid (Mid w w0 wr uc uo uk k k k (((l.take k).map (cmK l.length need)).flatMap cmC) (os.flatMap ogC) (ks.flatMap kwC) os ks o ⟨AS, cS, ls⟩) := Lib.hid ⟨hv.b, hv.r, hv.n, hv.rc, hv.ro, hv.rk, hv.mem, HPw8.out.below HB8q.out, ⟨by unfold RowOf; rw [HKS.out.1]; exact hrS, own_typed HRq.out, HPS.out⟩⟩
        clear hv hrS
        have HCq : Hid (Blk wr gw6 29 #[.string ca, .string cb]) := Lib.hid ((HB8q.out.block _ HC68.out.lt).trans HC68.out)
        have HGq : Hid (Blk wr w6.heap.size 32 #[.int .i64 o.ix, .int .i64 o.v, .string o.salt, .slice o.A o.p.length o.c]) := Lib.hid ((HB8q.out.block _ HCw8.out.lt).trans HCw8.out)
        have n0 := HM0.out.n.of_cell (i := 0) rfl
        have nl := HM0.out.n.lt
        have c0 := HCq.out.of_cell (i := 0) rfl
        have c1 := HCq.out.of_cell (i := 1) rfl
        have cl := HCq.out.lt
        have hsz := HM0.out.b.size
        go_wp2_with (at_builtin; refine wpList_app _ rfl (.tmp 101) (.tmp 103) 55 55 rfl w0.heap.size 29 29 ic _ 2 32 Tryz.underlying55 Tryz.underlying55 HIC.out.1 HIC.out.2.1 HIC.out.2.2.1 HIC.out.2.2.2 rfl (by omega) _ k _ rfl (HM0.out.rc.alloc _) _ 1 1 [.string ca, .string cb] rfl (Rd_new wr #[.string ca, .string cb] _ 2 1 _ rfl rfl) (by simp [Value.oneCell']) (by simp only [maxLen]; omega) (by omega) (by have := HZ0.out; simp; omega) ?_)
        try clear n0
        try clear nl
        try clear c0
        try clear c1
        try clear cl
        try clear hsz
        intro v0 w11 hown0 hg0
        obtain ⟨B0, b0, rfl, -, -, -⟩ := Rd.of_own hown0
        have M1 := HM0.out.below (below_alloc (Below.refl _ _) (.cells #[.string ca, .string cb] 29))
        have hn1 := M1.blkC HZ0.out hg0
        have M2 := M1.stepC HZ0.out hown0 hg0
        have G1 := HGq.out.alloc (.cells #[.string ca, .string cb] 29)
        have G2 := (step_typed M1.rc hg0 hn1 (T := 32) (by decide) (by decide) 0 (.slice B0 (k + 1) b0) _ _ G1).trans G1
        have d0 := hn1.of_cell (i := 0) rfl
        have d1 := hn1.frozen 0
        have d2 := hn1.lt
        obtain ⟨w12, hw12⟩ : ∃ w12, w11.setCell ⟨w.heap.size + 1, 0, none⟩ (.slice B0 (k + 1) b0) = w12 := ⟨_, rfl⟩
        rw [hw12] at M2 G2
        have HM2 := Lib.hid M2
        have HGq2 : Hid (Blk _ _ 32 _) := Lib.hid G2
        clear G1 G2
        clear M1 M2 hn1 hown0 hg0
        have n1 := HM2.out.n.of_cell (i := 1) rfl
        have nl := HM2.out.n.lt
        have g0 := HGq2.out.of_cell (i := 0) rfl
        have g1 := HGq2.out.of_cell (i := 1) rfl
        have g2 := HGq2.out.of_cell (i := 2) rfl
        have g3 := HGq2.out.of_cell (i := 3) rfl
        have gl := HGq2.out.lt
        have hsz := HM2.out.b.size
        go_wp2_with (at_builtin; refine wpList_app _ rfl (.tmp 107) (.tmp 109) 56 56 rfl w0.heap.size 32 32 io _ 4 56 Tryz.underlying56 Tryz.underlying56 HIO.out.1 HIO.out.2.1 HIO.out.2.2.1 HIO.out.2.2.2 rfl (by omega) _ k _ rfl (HM2.out.ro.alloc _) _ 1 1 [.int .i64 o.ix, .int .i64 o.v, .string o.salt, .slice o.A o.p.length o.c] rfl (Rd_new w12 #[.int .i64 o.ix, .int .i64 o.v, .string o.salt, .slice o.A o.p.length o.c] _ 4 1 _ rfl rfl) (by simp [Value.oneCell']) (by simp only [maxLen]; omega) (by omega) (by have := HZ0.out; simp; omega) ?_)
        try clear n1
        try clear nl
        try clear g0
        try clear g1
        try clear g2
        try clear g3
        try clear gl
        try clear hsz
        try clear d0
        try clear d1
        try clear d2
        try clear hw12
        intro v1 w13 hown1 hg1
        obtain ⟨B1, b1, rfl, -, -, -⟩ := Rd.of_own hown1
        have M1 := HM2.out.below (below_alloc (Below.refl _ _) (.cells #[.int .i64 o.ix, .int .i64 o.v, .string o.salt, .slice o.A o.p.length o.c] 32))
        have hn1 := M1.blkO HZ0.out hg1
        have M2 := M1.stepO HZ0.out hown1 hg1
        have d0 := hn1.of_cell (i := 1) rfl
        have d1 := hn1.frozen 1
        have d2 := hn1.lt
        obtain ⟨w14, hw14⟩ : ∃ w14, w13.setCell ⟨w.heap.size + 1, 1, none⟩ (.slice B1 (k + 1) b1) = w14 := ⟨_, rfl⟩
        rw [hw14] at M2
        have HM4 := Lib.hid M2
        clear M1 M2 hn1 hown1 hg1
        have n2 := HM4.out.n.of_cell (i := 2) rfl
        have nl := HM4.out.n.lt
        have hsz := HM4.out.b.size
        go_wp2_with (at_builtin; refine wpList_app _ rfl (.tmp 113) (.tmp 115) 57 57 rfl w0.heap.size 33 33 ik _ 1 24 Tryz.underlying57 Tryz.underlying57 HIK.out.1 HIK.out.2.1 HIK.out.2.2.1 HIK.out.2.2.2 rfl (by omega) _ k _ rfl (HM4.out.rk.alloc _) _ 1 1 [.slice AS l.length cS] rfl (Rd_new w14 #[.slice AS l.length cS] _ 1 1 _ rfl rfl) (by simp [Value.oneCell']) (by simp only [maxLen]; omega) (by omega) (by have := HZ0.out; simp; omega) ?_)
        try clear n2
        try clear nl
        try clear hsz
        try clear d0
        try clear d1
        try clear d2
        try clear hw14
        intro v2 w15 hown2 hg2
        obtain ⟨B2, b2, rfl, -, -, -⟩ := Rd.of_own hown2
        have M1 := HM4.out.below (below_alloc (Below.refl _ _) (.cells #[.slice AS l.length cS] 33))
        have hn1 := M1.blkK HZ0.out hg2
        have M2 := M1.stepK HZ0.out hown2 hg2
        have d0 := hn1.of_cell (i := 2) rfl
        have d1 := hn1.frozen 2
        have d2 := hn1.lt
        obtain ⟨w16, hw16⟩ : ∃ w16, w15.setCell ⟨w.heap.size + 1, 2, none⟩ (.slice B2 (k + 1) b2) = w16 := ⟨_, rfl⟩
        rw [hw16] at M2
        have HM6 := Lib.hid M2
        clear M1 M2 hn1 hown2 hg2
        have HN : Hid (NightInv l need i w w0 w16 (k + 1) (.slice B0 (k + 1) b0) (.slice B1 (k + 1) b1) (.slice B2 (k + 1) b2) (os ++ [o]) (ks ++ [⟨AS, cS, ls⟩])) := Lib.hid (HV8.out.next (by first | (rw [List.map_take, HCAB.out.1, HCAB.out.2]; exact HM6.out) | (rw [List.map_take, HCAB.out.1, HCAB.out.2, HKS.out.1]; exact HM6.out)) HX.out (by first | exact HOO.out.1 rfl | exact HOO.out.1 trivial) HKS.out HOK.out HOO.out.2)
        clear HM6 HM4 HM2 HM0
        go_wp2
        go_roundw
        case rel => exact ⟨k + 1, _, _, _, os ++ [o], ks ++ [⟨AS, cS, ls⟩], by omega, by go_num, HN.out⟩
        case measure => simp [intOf]; omega
      case pos =>
      have hji : (j : Int) < (l.length : Int) := by omega
      go_wp2_with fail
      refine wp_region_held_drew (S := fun W => Below wr.heap.size wr W) (by kernel_rfl) ((Below.refl _ _).drew) (fun hS0 => ?_)
      refine wpAnyH_take (i := 0) (v := ?_) rfl (by kernel_rfl) (by kernel_rfl) (by kernel_rfl) (fun _ _ _ h => h) (Or.inl ⟨by kernel_rfl, ?hy⟩) hS0 ?rest
      case hy => (intro W hSw; clear hSw; go_simp; with_reducible rfl)
      case rest =>
      refine wpAnyH_take (i := 1) (v := ?_) rfl (by kernel_rfl) (by kernel_rfl) (by kernel_rfl) (fun _ _ _ h => h) (Or.inl ⟨by kernel_rfl, ?hy⟩) hS0 ?rest
      case hy => (intro W hSw; clear hSw; go_simp; with_reducible rfl)
      case rest =>
      refine wpAnyH_take (i := 2) (v := ?_) rfl (by kernel_rfl) (by kernel_rfl) (by kernel_rfl) (fun _ _ _ h => h) (Or.inl ⟨by kernel_rfl, ?hy⟩) hS0 ?rest
      case hy => (intro W hSw; clear hSw; go_simp; with_reducible rfl)
      case rest =>
      refine wpAnyH_take (i := 3) (v := ?_) rfl (by kernel_rfl) (by kernel_rfl) (by kernel_rfl) (fun _ _ _ h => h) (Or.inl ⟨by kernel_rfl, ?hy⟩) hS0 ?rest
      case hy => (intro W hSw; clear hSw; go_simp; with_reducible rfl)
      case rest =>
      refine wpAnyH_take (i := 4) (v := ?_) rfl (by kernel_rfl) (by kernel_rfl) (by kernel_rfl) (fun _ _ _ h => h) (Or.inl ⟨by kernel_rfl, ?hy⟩) hS0 ?rest
      case hy => (intro W hSw; obtain ⟨b_, f_, he_, c0, c1, c2, cl⟩ := HC.out W (below_trans HBXq.out hSw); cases he_; clear hSw; go_simp; with_reducible rfl)
      case rest =>
      refine wpAnyH_take (i := 5) (v := ?_) rfl (by kernel_rfl) (by kernel_rfl) (by kernel_rfl) (fun _ _ _ h => h) (Or.inl ⟨by kernel_rfl, ?hy⟩) hS0 ?rest
      case hy => (intro W hSw; clear hSw; go_simp; with_reducible rfl)
      case rest =>
      try go_simp
      refine wpAnyH_take (i := 6) (v := ?_) rfl (by kernel_rfl) (by kernel_rfl) (by kernel_rfl) (fun _ _ _ h => h) (Or.inl ⟨by kernel_rfl, ?hy⟩) hS0 ?rest
      case hy => (intro W hSw; clear hSw; go_simp; with_reducible rfl)
      case rest =>
      refine wpAnyH_take (i := 7) (v := ?_) rfl (by kernel_rfl) (by kernel_rfl) (by kernel_rfl) (fun _ _ _ h => h) (Or.inl ⟨by kernel_rfl, ?hy⟩) hS0 ?rest
      case hy => (intro W hSw; clear hSw; go_simp; with_reducible rfl)
      case rest =>
      refine wpAnyH_take (i := 8) (v := ?_) rfl (by kernel_rfl) (by kernel_rfl) (by kernel_rfl) (fun _ _ _ h => h) (Or.inl ⟨by kernel_rfl, ?hy⟩) hS0 ?rest
      case hy => (intro W hSw; clear hSw; go_simp; with_reducible rfl)
      case rest =>
      refine wpAnyH_take (i := 9) (v := ?_) rfl (by kernel_rfl) (by kernel_rfl) (by kernel_rfl) (fun _ _ _ h => h) (Or.inl ⟨by kernel_rfl, ?hy⟩) hS0 ?rest
      case hy => (intro W hSw; clear hSw; go_simp; with_reducible rfl)
      case rest =>
      refine wpAnyH_take (i := 10) (v := ?_) rfl (by kernel_rfl) (by kernel_rfl) (by kernel_rfl) (fun _ _ _ h => h) (Or.inl ⟨by kernel_rfl, ?hy⟩) hS0 ?rest
      case hy => (intro W hSw; clear hSw; go_simp; with_reducible rfl)
      case rest =>
      refine wpAnyH_take (i := 11) (v := ?_) rfl (by kernel_rfl) (by kernel_rfl) (by kernel_rfl) (fun _ _ _ h => h) (Or.inl ⟨by kernel_rfl, ?hy⟩) hS0 ?rest
      case hy => (intro W hSw; clear hSw; go_simp; with_reducible rfl)
      case rest =>
      try go_simp
      refine wpAnyH_take (i := 12) (v := ?_) rfl (by kernel_rfl) (by kernel_rfl) (by kernel_rfl) (fun _ _ _ h => h) (Or.inl ⟨by kernel_rfl, ?hy⟩) hS0 ?rest
      case hy => (intro W hSw; obtain ⟨b_, f_, he_, c0, c1, c2, cl⟩ := HC.out W (below_trans HBXq.out hSw); cases he_; clear hSw; go_simp; with_reducible rfl)
      case rest =>
      refine wpAnyH_take (i := 13) (v := ?_) rfl (by kernel_rfl) (by kernel_rfl) (by kernel_rfl) (fun _ _ _ h => h) (Or.inl ⟨by kernel_rfl, ?hy⟩) hS0 ?rest
      case hy => (intro W hSw; clear hSw; go_simp; with_reducible rfl)
      case rest =>
      refine wpAnyH_take (i := 14) (v := ?_) rfl (by kernel_rfl) (by kernel_rfl) (by kernel_rfl) (fun _ _ _ h => h) (Or.inl ⟨by kernel_rfl, ?hy⟩) hS0 ?rest
      case hy => (intro W hSw; clear hSw; go_simp; with_reducible rfl)
      case rest =>
      refine wpAnyH_ready (rs := [15, 19]) (by kernel_rfl) (by simp) ?_
      refine AllReadyH.cons rfl (fun K hK => ?_) (AllReadyH.cons rfl (fun K hK => ?_) (AllReadyH.nil))
      · skip
        go_simp
        refine (HKE.out j hlj _ (below_trans HBXq.out hS0)).mono ?_
        rintro e w9 ⟨q, rfl, hqq, hpq, hb⟩
        have HQQ := Lib.hid hqq
        have HPQ := Lib.hid hpq
        clear hqq hpq
        have HBw9 := Lib.hid (below_trans hS0 hb)
        go_simp
        refine hK.out _ _ HBw9.out (fun hS1 => ?_)
        clear hK K hb
        refine wpAnyH_take (i := 16) (v := ?_) rfl (by kernel_rfl) (by kernel_rfl) (by kernel_rfl) (fun _ _ _ h => h) (Or.inl ⟨by kernel_rfl, ?hy⟩) hS1 ?rest
        case hy => (intro W hSw; clear hSw; go_simp; with_reducible rfl)
        case rest =>
        refine wpAnyH_take (i := 17) (v := ?_) rfl (by kernel_rfl) (by kernel_rfl) (by kernel_rfl) (fun _ _ _ h => h) (Or.inl ⟨by kernel_rfl, ?hy⟩) hS1 ?rest
        case hy => (intro W hSw; clear hSw; go_simp; with_reducible rfl)
        case rest =>
        refine wpAnyH_take (i := 18) (v := ?_) rfl (by kernel_rfl) (by kernel_rfl) (by kernel_rfl) (fun _ _ _ h => h) (Or.inl ⟨by kernel_rfl, ?hy⟩) hS1 ?rest
        case hy => (intro W hSw; clear hSw; go_simp; with_reducible rfl)
        case rest =>
        try go_simp
        refine wpAnyH_ready (rs := [19]) (by kernel_rfl) (by simp) ?_
        refine AllReadyH.cons rfl (fun K hK => ?_) (AllReadyH.nil)
        go_simp
        refine hK.out _ _ (below_alloc HBw9.out _) (fun hS2 => ?_)
        clear hK K
        refine wpAnyH_ready (rs := [20]) (by kernel_rfl) (by simp) ?_
        refine AllReadyH.cons rfl (fun K hK => ?_) (AllReadyH.nil)
        go_simp
        refine hK.out _ _ (below_alloc HBw9.out _) (fun hS3 => ?_)
        clear hK K
        refine wpAnyH_take (i := 21) (v := ?_) rfl (by kernel_rfl) (by kernel_rfl) (by kernel_rfl) (fun _ _ _ h => h) (Or.inl ⟨by kernel_rfl, ?hy⟩) hS3 ?rest
        case hy => (intro W hSw; clear hSw; go_simp; with_reducible rfl)
        case rest =>
        refine wpAnyH_done (by kernel_rfl) ?_ _
        have hblk : Blk (w9.alloc (.cells #[.int .i64 q.ix, .int .i64 q.s.1, .int .i64 q.s.2, .slice q.A q.p.length q.c] 50)) w9.heap.size 50 #[.int .i64 q.ix, .int .i64 q.s.1, .int .i64 q.s.2, .slice q.A q.p.length q.c] := Blk.new _ _ _ _ rfl
        have hbel := below_alloc HBw9.out (.cells #[.int .i64 q.ix, .int .i64 q.s.1, .int .i64 q.s.2, .slice q.A q.p.length q.c] 50)
        have hpat := HPQ.out.below (below_alloc (Below.refl _ _) (.cells #[.int .i64 q.ix, .int .i64 q.s.1, .int .i64 q.s.2, .slice q.A q.p.length q.c] 50))
        generalize w9.alloc (.cells #[.int .i64 q.ix, .int .i64 q.s.1, .int .i64 q.s.2, .slice q.A q.p.length q.c] 50) = w10 at *
        generalize w9.heap.size = gw10 at *
        have HCw10 := Lib.hid hblk
        have HBw10 := Lib.hid hbel
        have HPw10 := Lib.hid hpat
        clear hblk hbel hS3 hpat
        have HRw10 := Lib.hid (row_below HRq.out HBw10.out)
        have f0 := HCw10.out.of_cell (i := 0) rfl
        have f1 := HCw10.out.of_cell (i := 1) rfl
        have f2 := HCw10.out.of_cell (i := 2) rfl
        have f3 := HCw10.out.of_cell (i := 3) rfl
        have fl := HCw10.out.lt
        have hsz : w8.heap.size ≤ w10.heap.size := Nat.le_trans HB8q.out.size HBw10.out.size
        go_wp2_with (at_builtin; refine wpList_app _ rfl (.tmp 96) (.tmp 98) 33 33 rfl w8.heap.size 50 50 ip _ 4 48 Tryz.underlying33 Tryz.underlying33 HIP.out.1 HIP.out.2.1 HIP.out.2.2.1 HIP.out.2.2.2 rfl (by omega) _ j _ rfl (HRw10.out.alloc _) _ 1 1 [.int .i64 q.ix, .int .i64 q.s.1, .int .i64 q.s.2, .slice q.A q.p.length q.c] rfl (Rd_new w10 #[.int .i64 q.ix, .int .i64 q.s.1, .int .i64 q.s.2, .slice q.A q.p.length q.c] _ 4 1 _ rfl rfl) (by simp [Value.oneCell']) (by simp only [maxLen]; omega) (by omega) (by simp; omega) ?_)
        intro v1 w11 hown hg
        have HB11 : Hid (Below w8.heap.size w8 w11) := Lib.hid ((below_alloc (below_trans HB8q.out HBw10.out) _).grown hg (by simp; omega) (fun j hj => (HRw10.out.lt j hj).1))
        have HP11 : Hid (∀ k, k ∈ ls ++ [q] → PathIn w11 k.A k.p) := Lib.hid (fun k hk => by
          have h1 : PathIn w10 k.A k.p := by
            rcases List.mem_append.1 hk with h | h
            · exact (HPS.out k h).below HBw10.out
            · rw [List.mem_singleton.1 h]; exact HPw10.out
          exact (h1.below (below_alloc (Below.refl _ _) _)).keep (fun a cs _ hcs => grown_typed (HRw10.out.alloc _) hg (by decide) _ cs hcs))
        have e5 : ls.flatMap kpC ++ [.int .i64 q.ix, .int .i64 q.s.1, .int .i64 q.s.2, .slice q.A q.p.length q.c] = (ls ++ [q]).flatMap kpC := by rw [List.flatMap_append]; rfl
        rw [e5] at hown
        have HO11 := Lib.hid hown
        clear hown hg e5 f0 f1 f2 f3 fl
        go_wp2
        go_roundw
        case rel => exact ⟨j + 1, ls ++ [q], by omega, by go_num, HB11.out, HO11.out, HKS.out.snoc HQQ.out, HP11.out⟩
        case measure => simp [intOf]; omega
      · skip
        go_simp
        refine hK.out _ _ (below_alloc (Below.refl _ _).drew _) (fun hS2 => ?_)
        have HGA : Hid (Blk ((World.drew wr).alloc (.cells #[.int .i64 0, .int .i64 0, .int .i64 0, .slice none 0 0] 50)) wr.heap.size 50 #[.int .i64 0, .int .i64 0, .int .i64 0, .slice none 0 0]) := Lib.hid (Blk.new _ _ _ _ rfl)
        clear hK K
        refine wpAnyH_ready (rs := [15]) (by kernel_rfl) (by simp) ?_
        refine AllReadyH.cons rfl (fun K hK => ?_) (AllReadyH.nil)
        go_simp
        refine (HKE.out j hlj _ (below_trans HBXq.out hS2)).mono ?_
        rintro e w9 ⟨q, rfl, hqq, hpq, hb⟩
        have HQQ := Lib.hid hqq
        have HPQ := Lib.hid hpq
        clear hqq hpq
        have HBw9 := Lib.hid (below_trans hS2 hb)
        have HGw9 : Hid (Blk w9 wr.heap.size 50 #[.int .i64 0, .int .i64 0, .int .i64 0, .slice none 0 0]) := Lib.hid ((hb.block _ HGA.out.lt).trans HGA.out)
        go_simp
        refine hK.out _ _ HBw9.out (fun hS1 => ?_)
        clear hK K hb
        refine wpAnyH_take (i := 16) (v := ?_) rfl (by kernel_rfl) (by kernel_rfl) (by kernel_rfl) (fun _ _ _ h => h) (Or.inl ⟨by kernel_rfl, ?hy⟩) hS1 ?rest
        case hy => (intro W hSw; clear hSw; go_simp; with_reducible rfl)
        case rest =>
        refine wpAnyH_take (i := 17) (v := ?_) rfl (by kernel_rfl) (by kernel_rfl) (by kernel_rfl) (fun _ _ _ h => h) (Or.inl ⟨by kernel_rfl, ?hy⟩) hS1 ?rest
        case hy => (intro W hSw; clear hSw; go_simp; with_reducible rfl)
        case rest =>
        refine wpAnyH_take (i := 18) (v := ?_) rfl (by kernel_rfl) (by kernel_rfl) (by kernel_rfl) (fun _ _ _ h => h) (Or.inl ⟨by kernel_rfl, ?hy⟩) hS1 ?rest
        case hy => (intro W hSw; clear hSw; go_simp; with_reducible rfl)
        case rest =>
        try go_simp
        refine wpAnyH_ready (rs := [20]) (by kernel_rfl) (by simp) ?_
        refine AllReadyH.cons rfl (fun K hK => ?_) (AllReadyH.nil)
        have f0 := HGw9.out.of_cell (i := 0) rfl
        have e0_ := HGw9.out.frozen 0
        have f1 := HGw9.out.of_cell (i := 1) rfl
        have e1_ := HGw9.out.frozen 1
        have f2 := HGw9.out.of_cell (i := 2) rfl
        have e2_ := HGw9.out.frozen 2
        have f3 := HGw9.out.of_cell (i := 3) rfl
        have e3_ := HGw9.out.frozen 3
        have fl := HGw9.out.lt
        go_simp
        refine hK.out _ _ ((((HBw9.out.setCell (Nat.le_refl _) _).setCell (Nat.le_refl _) _).setCell (Nat.le_refl _) _).setCell (Nat.le_refl _) _) (fun hS3 => ?_)
        clear hK K fl f0 e0_ f1 e1_ f2 e2_ f3 e3_
        refine wpAnyH_take (i := 21) (v := ?_) rfl (by kernel_rfl) (by kernel_rfl) (by kernel_rfl) (fun _ _ _ h => h) (Or.inl ⟨by kernel_rfl, ?hy⟩) hS3 ?rest
        case hy => (intro W hSw; clear hSw; go_simp; with_reducible rfl)
        case rest =>
        refine wpAnyH_done (by kernel_rfl) ?_ _
        have hblk : Blk ((((w9.setCell ⟨wr.heap.size, 0, none⟩ (.int .i64 q.ix)).setCell ⟨wr.heap.size, 1, none⟩ (.int .i64 q.s.1)).setCell ⟨wr.heap.size, 2, none⟩ (.int .i64 q.s.2)).setCell ⟨wr.heap.size, 3, none⟩ (.slice q.A q.p.length q.c)) wr.heap.size 50 #[.int .i64 q.ix, .int .i64 q.s.1, .int .i64 q.s.2, .slice q.A q.p.length q.c] := ((((HGw9.out.set 0 (.int .i64 q.ix)).set 1 (.int .i64 q.s.1)).set 2 (.int .i64 q.s.2)).set 3 (.slice q.A q.p.length q.c))
        have hbel := ((((HBw9.out.setCell (p := ⟨wr.heap.size, 0, none⟩) (Nat.le_refl _) (.int .i64 q.ix)).setCell (p := ⟨wr.heap.size, 1, none⟩) (Nat.le_refl _) (.int .i64 q.s.1)).setCell (p := ⟨wr.heap.size, 2, none⟩) (Nat.le_refl _) (.int .i64 q.s.2)).setCell (p := ⟨wr.heap.size, 3, none⟩) (Nat.le_refl _) (.slice q.A q.p.length q.c))
        have hpat := ((((HPQ.out.setBlk HGw9.out (by decide) 0 (.int .i64 q.ix)).setBlk (HGw9.out.set 0 (.int .i64 q.ix)) (by decide) 1 (.int .i64 q.s.1)).setBlk ((HGw9.out.set 0 (.int .i64 q.ix)).set 1 (.int .i64 q.s.1)) (by decide) 2 (.int .i64 q.s.2)).setBlk (((HGw9.out.set 0 (.int .i64 q.ix)).set 1 (.int .i64 q.s.1)).set 2 (.int .i64 q.s.2)) (by decide) 3 (.slice q.A q.p.length q.c))
        generalize ((((w9.setCell ⟨wr.heap.size, 0, none⟩ (.int .i64 q.ix)).setCell ⟨wr.heap.size, 1, none⟩ (.int .i64 q.s.1)).setCell ⟨wr.heap.size, 2, none⟩ (.int .i64 q.s.2)).setCell ⟨wr.heap.size, 3, none⟩ (.slice q.A q.p.length q.c)) = w10 at *
        have HCw10 := Lib.hid hblk
        have HBw10 := Lib.hid hbel
        have HPw10 := Lib.hid hpat
        clear hblk hbel hS3 hpat
        have HRw10 := Lib.hid (row_below HRq.out HBw10.out)
        have f0 := HCw10.out.of_cell (i := 0) rfl
        have f1 := HCw10.out.of_cell (i := 1) rfl
        have f2 := HCw10.out.of_cell (i := 2) rfl
        have f3 := HCw10.out.of_cell (i := 3) rfl
        have fl := HCw10.out.lt
        have hsz : w8.heap.size ≤ w10.heap.size := Nat.le_trans HB8q.out.size HBw10.out.size
        go_wp2_with (at_builtin; refine wpList_app _ rfl (.tmp 96) (.tmp 98) 33 33 rfl w8.heap.size 50 50 ip _ 4 48 Tryz.underlying33 Tryz.underlying33 HIP.out.1 HIP.out.2.1 HIP.out.2.2.1 HIP.out.2.2.2 rfl (by omega) _ j _ rfl (HRw10.out.alloc _) _ 1 1 [.int .i64 q.ix, .int .i64 q.s.1, .int .i64 q.s.2, .slice q.A q.p.length q.c] rfl (Rd_new w10 #[.int .i64 q.ix, .int .i64 q.s.1, .int .i64 q.s.2, .slice q.A q.p.length q.c] _ 4 1 _ rfl rfl) (by simp [Value.oneCell']) (by simp only [maxLen]; omega) (by omega) (by simp; omega) ?_)
        intro v1 w11 hown hg
        have HB11 : Hid (Below w8.heap.size w8 w11) := Lib.hid ((below_alloc (below_trans HB8q.out HBw10.out) _).grown hg (by simp; omega) (fun j hj => (HRw10.out.lt j hj).1))
        have HP11 : Hid (∀ k, k ∈ ls ++ [q] → PathIn w11 k.A k.p) := Lib.hid (fun k hk => by
          have h1 : PathIn w10 k.A k.p := by
            rcases List.mem_append.1 hk with h | h
            · exact (HPS.out k h).below HBw10.out
            · rw [List.mem_singleton.1 h]; exact HPw10.out
          exact (h1.below (below_alloc (Below.refl _ _) _)).keep (fun a cs _ hcs => grown_typed (HRw10.out.alloc _) hg (by decide) _ cs hcs))
        have e5 : ls.flatMap kpC ++ [.int .i64 q.ix, .int .i64 q.s.1, .int .i64 q.s.2, .slice q.A q.p.length q.c] = (ls ++ [q]).flatMap kpC := by rw [List.flatMap_append]; rfl
        rw [e5] at hown
        have HO11 := Lib.hid hown
        clear hown hg e5 f0 f1 f2 f3 fl
        go_wp2
        go_roundw
        case rel => exact ⟨j + 1, ls ++ [q], by omega, by go_num, HB11.out, HO11.out, HKS.out.snoc HQQ.out, HP11.out⟩
        case measure => simp [intOf]; omega
end

end Go.Proofs.YtjfondfjdhjooaaGreatDoor
