/- the steps from one tree to another: what stands in memory while they are collected -/
import Derived.Test.YtheccdidfkcbbaaDoorG5
namespace Go.Proofs.YtheccdidfkcbbaaDoor
open Go.RowKit Go.Shelf

/-- a step whose bytes are a row -/
structure StRow (w : World) (s : StI) : Prop where
  size : s.p.size ≤ 140737488351232
  len : s.bs.length ≤ 140737488351232
  row : Row w 5 1 (.slice s.bA s.bs.length s.bc) (nums s.bs)
  rng : ∀ b ∈ s.bs, 0 ≤ b ∧ b < 256
theorem StRow.good {w : World} {s : StI} (h : StRow w s) : StGood w s := ⟨h.size, h.len, h.row.src, h.rng⟩
theorem IsSet.same {w w' : World} {b : Nat} {ks : List ByteArray} (h : IsSet w b ks) (hb : w'.heap[b]? = w.heap[b]?) : IsSet w' b ks := by
  obtain ⟨es, clock, h1, F, hs, hD⟩ := h
  exact ⟨es, clock, hb.trans h1, F, hs, hD⟩
theorem IsSet.obj {w : World} {b : Nat} {ks : List ByteArray} (h : IsSet w b ks) : ∃ es clock, w.heap[b]? = some (.map es clock) := by
  obtain ⟨es, clock, h1, _⟩ := h
  exact ⟨es, clock, h1⟩

structure MK (w : World) (M D : Nat) (ks : List ByteArray) (oA : Option Addr) (on oc : Nat) (L : List StI) (wr : World) : Prop where
  box : wr.heap[w.heap.size]? = some (.cells #[.slice oA on oc] 25 (0, 0))
  row : Row wr 35 3 (.slice oA on oc) (L.flatMap StI.cells)
  fresh : ∀ k, (Value.slice oA on oc).ownBlock = some k → w.heap.size ≤ k
  set : IsSet wr M ks
  dfr : wr.heap[D]? = some (.deferred (some []))
  goods : ∀ s ∈ L, StRow wr s
  below : Below w.heap.size w wr

theorem MK.other {w : World} {M D : Nat} {ks : List ByteArray} {oA : Option Addr} {on oc : Nat} {L : List StI} {wr w' : World} (h : MK w M D ks oA on oc L wr) {g : Nat} {o : Obj} (hg : wr.heap[g]? = some o) (hne : ∀ cs t, o ≠ .cells cs t (0, 0)) (hm : ∀ es c, o ≠ .map es c) (hd : o ≠ .deferred (some []))
    (hk : ∀ k, k ≠ g → w'.heap[k]? = wr.heap[k]?) (hgw : w.heap.size ≤ g) (hos : w'.os = wr.os) (ht : w'.tape = wr.tape) (ho : w'.output = wr.output) (hs : wr.heap.size ≤ w'.heap.size) : MK w M D ks oA on oc L w' := by
  have e1 : ∀ k, g ≠ k → w'.heap[k]? = wr.heap[k]? := fun k h => hk k (Ne.symm h)
  have hb := h.below
  refine ⟨(e1 _ ?_).trans h.box, h.row.keep fun k hk' => e1 _ ?_, h.fresh, h.set.same (e1 _ ?_), (e1 _ ?_).trans h.dfr, fun s hs' => ⟨(h.goods s hs').size, (h.goods s hs').len, (h.goods s hs').row.keep fun k hk' => e1 _ ?_, (h.goods s hs').rng⟩, ⟨hos.trans hb.os, ht.trans hb.tape, ho.trans hb.output, Nat.le_trans hb.size hs, fun k hk' => (hk k (by omega)).trans (hb.block k hk')⟩⟩
  · rintro rfl; rw [h.box] at hg; cases hg; exact hne _ _ rfl
  · rintro rfl; exact h.row.neObj hg (fun cs => hne cs _) hk'
  · rintro rfl
    obtain ⟨es, c, h1⟩ := h.set.obj
    rw [h1] at hg; cases hg; exact hm _ _ rfl
  · rintro rfl; rw [h.dfr] at hg; cases hg; exact hd rfl
  · rintro rfl; exact (h.goods s hs').row.neObj hg (fun cs => hne cs _) hk'
theorem MK.later {w : World} {M D : Nat} {ks : List ByteArray} {oA : Option Addr} {on oc : Nat} {L : List StI} {wr w' : World} (h : MK w M D ks oA on oc L wr) (hb : Below wr.heap.size wr w') : MK w M D ks oA on oc L w' :=
  ⟨(hb.block _ (blkLt h.box)).trans h.box, h.row.below hb, h.fresh, h.set.below hb, (hb.block _ (blkLt h.dfr)).trans h.dfr, fun s hs => ⟨(h.goods s hs).size, (h.goods s hs).len, (h.goods s hs).row.below hb, (h.goods s hs).rng⟩, thenB h.below hb⟩
theorem MK.grown {w : World} {M D : Nat} {ks : List ByteArray} {oA bA : Option Addr} {on oc bn bc : Nat} {L : List StI} {s : StI} {w2 w3 : World} (h : MK w M D ks oA on oc L w2) (hg : w2.grownBy w3 (Value.slice oA on oc).ownBlock)
    (hr : Row w3 35 3 (.slice bA bn bc) (L.flatMap StI.cells ++ s.cells)) (ha : (Value.slice bA bn bc).ownBlock = (Value.slice oA on oc).ownBlock ∨ (Value.slice bA bn bc).ownBlock = some w2.heap.size) (hs : StRow w2 s) :
    MK w M D ks bA bn bc (L ++ [s]) (w3.setCell ⟨w.heap.size, 0, none⟩ (.slice bA bn bc)) := by
  have hb1 := h.below.size
  have hne : ∀ {g : Nat} {o : Obj}, w2.heap[g]? = some o → (∀ cs, o ≠ .cells cs 35 (0, 0)) → w3.heap[g]? = some o := fun hk ho => (hg.block _ (blkLt hk) (fun e => h.row.neObj hk ho e.symm)).trans hk
  have hbox3 := hne h.box (fun cs e => by cases e)
  have hrow0 : (Value.slice bA bn bc).ownBlock ≠ some w.heap.size := hr.neBlk hbox3 (by decide)
  have far : ∀ k, k ≠ w.heap.size → (w3.setCell ⟨w.heap.size, 0, none⟩ (.slice bA bn bc)).heap[k]? = w3.heap[k]? := fun k hk => Below.heap_setCell w3 _ _ k hk
  have keepRow : ∀ {v : Value} {xs : List Value}, Row w2 5 1 v xs → Row (w3.setCell ⟨w.heap.size, 0, none⟩ (.slice bA bn bc)) 5 1 v xs := fun {v xs} hv => hv.keep fun k hk => by
    have h1 : k ≠ w.heap.size := by rintro rfl; exact hv.neBlk h.box (by decide) hk
    rw [far k h1]
    exact hg.block k (hv.lt k hk) (fun e => hv.neRow h.row (by decide) hk e.symm)
  obtain ⟨es, cl, hso⟩ := h.set.obj
  have hset3 := hne hso (fun cs e => by cases e)
  have hset0 : M ≠ w.heap.size := by rintro rfl; rw [h.box] at hso; cases hso
  have hdfr0 : D ≠ w.heap.size := by rintro rfl; have := h.dfr; rw [h.box] at this; cases this
  refine ⟨?_, ?_, ?_, h.set.same ?_, (far _ hdfr0).trans (hne h.dfr (fun cs e => by cases e)), ?_, ?_⟩
  · have := blkSet hbox3 0 (.slice bA bn bc)
    simpa using this
  · rw [List.flatMap_append]
    have : [s].flatMap StI.cells = s.cells := by simp
    rw [this]
    exact hr.keep fun k hk => far k (fun e => hrow0 (by rw [hk, e]))
  · intro k hk
    rcases ha with e | e
    · exact h.fresh k (e ▸ hk)
    · rw [e] at hk; cases hk; exact hb1
  · rw [far _ hset0, hset3, hso]
  · intro t ht
    rcases List.mem_append.1 ht with ht | ht
    · have := h.goods t ht
      exact ⟨this.size, this.len, keepRow this.row, this.rng⟩
    · rw [List.mem_singleton.1 ht]
      exact ⟨hs.size, hs.len, keepRow hs.row, hs.rng⟩
  · exact (Below.grownNew h.below hg hb1 h.fresh).setCell (Nat.le_refl _) _

/-- the box, and whatever else is no row of steps, behind an append -/
theorem MK.far {w : World} {M D : Nat} {ks : List ByteArray} {oA : Option Addr} {on oc : Nat} {L : List StI} {w2 w3 : World} (h : MK w M D ks oA on oc L w2) (hg : w2.grownBy w3 (Value.slice oA on oc).ownBlock) {g : Nat} {o : Obj} (hk : w2.heap[g]? = some o) (ho : ∀ cs, o ≠ .cells cs 35 (0, 0)) : w3.heap[g]? = some o :=
  (hg.block _ (blkLt hk) (fun e => h.row.neObj hk ho e.symm)).trans hk
theorem MK.boxed {w : World} {M D : Nat} {ks : List ByteArray} {oA : Option Addr} {on oc : Nat} {L : List StI} {w2 w3 : World} (h : MK w M D ks oA on oc L w2) (hg : w2.grownBy w3 (Value.slice oA on oc).ownBlock) : w3.heap[w.heap.size]? = some (.cells #[.slice oA on oc] 25 (0, 0)) :=
  h.far hg h.box (fun cs e => by cases e)

def remI (p : ByteArray) : StI := ⟨1, p, none, 0, []⟩
theorem remI_row (w : World) {p : ByteArray} (h : p.size ≤ 140737488351232) : StRow w (remI p) := ⟨h, by simp [remI], Row.nil w _ 1, by simp [remI]⟩
def dirS (p : ByteArray) : StI := ⟨2, p, none, 0, []⟩
theorem dirS_row (w : World) {p : ByteArray} (h : p.size ≤ 140737488351232) : StRow w (dirS p) := ⟨h, by simp [dirS], Row.nil w _ 1, by simp [dirS]⟩

/-- between two rounds over the tops -/
structure MJ (w : World) (M D : Nat) (ks : List ByteArray) (rec : LoopState → Option Code → Loop) (sB : Nat) (C : Option Addr) (u : Nat) (ps : List ByteArray) (pre : List ByteArray) (W : World) : Prop where
  st : ∃ oA on oc, MK w M D ks oA on oc (pre.map remI) W
  box : W.heap[sB]? = some (.cells #[.slice C ps.length u] 47 (0, 0))
  tops : Row W 9 1 (.slice C ps.length u) (ps.map .string)
  loop : W.heap[D + 1]? = some (.loop (rec .ready none))
  hD : w.heap.size ≤ D

theorem make_no (A : Option Addr) (c : Nat) (l : List Itm) (B : Option Addr) (d : Nat) (m : List Itm) (w : World) (h : Tr w A c l) (k : Tr w B d m) (hn : rightA (l.map Itm.abs) = false ∨ rightA (m.map Itm.abs) = false) :
    Calls Tryd.prog 8 #[.slice A l.length c, .slice B m.length d] w fun e w' => e = .returned (.tuple #[.slice none 0 0, .int .i64 1]) ∧ Below w.heap.size w w' := by
  have hb0 := thenA (Below.refl _ w) (.cells #[.slice none 0 0] 25 (0, 0))
  have HR := hid (right_walk A c l _ (h.below hb0))
  have HS := hid (fun W (hW : Below w.heap.size w W) => right_walk B d m W (k.below hW))
  clear h k
  cases h1 : rightA (l.map Itm.abs)
  · rw [h1] at HR
    clear hn h1
    go_enter Tryd.func8, Tryd.ntmps8
    go_wp2_with fail
    refine HR.out.mono ?_
    rintro e w1 ⟨rfl, hb1⟩
    have hb2 := thenB hb0 hb1
    have x0 := cellB hb1 ((blkCell (heap_alloc_new w (.cells #[.slice none 0 0] 25 (0, 0))) 0).trans rfl)
    have f0 : w1.frozen? ⟨w.heap.size, 0, none⟩ = false := blkFree ((hb1.block w.heap.size (by simp)).trans (heap_alloc_new w _)) 0
    go_wp2_with fail
    exact bodyPost_ret (v := .tuple #[.slice none 0 0, .int .i64 1]) (by simp [results, Tryd.results8, go_sem, x0]) rfl ⟨rfl, hb2.setCell (by simp) _⟩
  · rw [h1] at HR
    have h2 : rightA (m.map Itm.abs) = false := hn.resolve_left (by simp [h1])
    rw [h2] at HS
    clear hn h1 h2
    go_enter Tryd.func8, Tryd.ntmps8
    go_wp2_with fail
    refine HR.out.mono ?_
    rintro e w1 ⟨rfl, hb1⟩
    have hb2 := thenB hb0 hb1
    go_wp2_with fail
    refine (HS.out _ hb2).mono ?_
    rintro e w2 ⟨rfl, hb3⟩
    have hb4 := thenB hb2 hb3
    have g1 := ((thenB hb1 hb3).block w.heap.size (by simp)).trans (heap_alloc_new w (.cells #[.slice none 0 0] 25 (0, 0)))
    have x0 : w2.cell? ⟨w.heap.size, 0, none⟩ = some (.slice none 0 0) := (blkCell g1 0).trans rfl
    have f0 : w2.frozen? ⟨w.heap.size, 0, none⟩ = false := blkFree g1 0
    go_wp2_with fail
    exact bodyPost_ret (v := .tuple #[.slice none 0 0, .int .i64 1]) (by simp [results, Tryd.results8, go_sem, x0]) rfl ⟨rfl, hb4.setCell (by simp) _⟩

end Go.Proofs.YtheccdidfkcbbaaDoor
