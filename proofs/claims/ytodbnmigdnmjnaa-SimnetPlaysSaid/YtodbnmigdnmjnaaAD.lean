/- a script: a slice of calls; Light -/
import Derived.Test.YtodbnmigdnmjnaaAC
namespace Go.Proofs.Ytodbnmigdnmjnaa
open Go.RowKit

structure OpR where
  k : Int
  e : Int
  i : Int
  j : Int
  n : Int
  y : Int
  b : Value
  bs : List Int
def OpR.cells (r : OpR) : Array Value := opCells r.k r.e r.i r.j r.n r.y r.b

/-- the slice value v holds the script l -/
def Ops (w : World) (v : Value) (l : List OpR) : Prop :=
  ∃ A n c, v = .slice A n c ∧ l.length = n ∧ ∀ i r, l[i]? = some r → ∃ a, A = some a ∧ (∀ j u, r.cells[j]? = some u → w.cell? ((a.add (i * 7)).add j) = some u) ∧ Src w 1 r.b (nums r.bs)

theorem Ops.len {w : World} {A : Option Addr} {n c : Nat} {l : List OpR} (h : Ops w (.slice A n c) l) : n = l.length := by
  obtain ⟨_, _, _, hv, hl, _⟩ := h
  cases hv; omega
theorem cellKeep {w w' : World} {a : Addr} {u : Value} (h : w.cell? a = some u) (hk : Keep (· < w.heap.size) w w') : w'.cell? a = some u := by
  have hlt := World.block_lt_of_cell? w a h
  rw [World.cell?_of_block (w := w) (hk.block _ hlt hlt)]; exact h
theorem Ops.keep {w w' : World} {v : Value} {l : List OpR} (h : Ops w v l) (hk : Keep (· < w.heap.size) w w') : Ops w' v l := by
  obtain ⟨A, n, c, rfl, hl, h⟩ := h
  refine ⟨A, n, c, rfl, hl, fun i r hr => ?_⟩
  obtain ⟨a, rfl, hc, hs⟩ := h i r hr
  exact ⟨a, rfl, fun j u hj => cellKeep (hc j u hj) hk, hs.keep fun k _ hk' => hk.block k hk' hk'⟩
structure OpAt (w : World) (a : Addr) (r : OpR) : Prop where
  c0 : w.cell? a = some (.int .i64 r.k)
  c1 : w.cell? ⟨a.block, a.off + 1, none⟩ = some (.int .i64 r.e)
  c2 : w.cell? ⟨a.block, a.off + 2, none⟩ = some (.int .i64 r.i)
  c3 : w.cell? ⟨a.block, a.off + 3, none⟩ = some (.int .i64 r.j)
  c4 : w.cell? ⟨a.block, a.off + 4, none⟩ = some (.int .i64 r.n)
  c5 : w.cell? ⟨a.block, a.off + 5, none⟩ = some (.int .u8 r.y)
  c6 : w.cell? ⟨a.block, a.off + 6, none⟩ = some r.b
theorem Ops.at_ {w : World} {A : Option Addr} {n c : Nat} {l : List OpR} (h : Ops w (.slice A n c) l) {i : Nat} (hi : i < l.length) : ∃ a bA bc, A = some a ∧ l[i].b = .slice bA l[i].bs.length bc ∧ Src w 1 (.slice bA l[i].bs.length bc) (nums l[i].bs) ∧ OpAt w (a.add (i * 7)) l[i] := by
  obtain ⟨_, _, _, hv, hl, h⟩ := h
  cases hv
  obtain ⟨a, ha, hc, hs⟩ := h i l[i] (List.getElem?_eq_getElem hi)
  obtain ⟨bA, bn, bc, hb, _⟩ := id hs
  rw [hb] at hs
  obtain rfl := hs.len
  exact ⟨a, bA, bc, ha, hb, hs, by have h0 := hc 0 (.int .i64 l[i].k) rfl; rwa [show (a.add (i * 7)).add 0 = a.add (i * 7) from rfl] at h0, hc 1 _ rfl, hc 2 _ rfl, hc 3 _ rfl, hc 4 _ rfl, hc 5 _ rfl, hc 6 _ rfl⟩

def OpR.fine (r : OpR) : Bool := !((decide (r.bs.length > 200) && decide (r.bs.length < 59990)) || decide (r.bs.length > 60010))
def light (l : List OpR) : Bool := decide (l.length ≤ 50) && l.all OpR.fine
theorem light_not {l : List OpR} {j : Nat} (hj : j < l.length) (h : l[j].fine = false) : light l = false := by
  unfold light
  rw [Bool.and_eq_false_iff]
  exact .inr (List.all_eq_false.2 ⟨l[j], List.getElem_mem hj, by simp [h]⟩)
theorem light_next {l : List OpR} {j : Nat} (hj : j < l.length) (h : l[j].fine = true) (ht : (l.take j).all OpR.fine = true) : (l.take (j + 1)).all OpR.fine = true := by
  rw [List.take_add_one, List.getElem?_eq_getElem hj, List.all_append, ht]
  simp [h]

set_option maxRecDepth 100000 in
set_option maxHeartbeats 800000 in
theorem light_any (A : Option Addr) (n c : Nat) (l : List OpR) (w : World) (hl : Ops w (.slice A n c) l) :
    Calls Try.prog 15 #[.slice A n c, .int .i64 50] w fun e w' => e = .returned (.bool (light l)) ∧ w = w' := by
  obtain rfl := hl.len
  by_cases h50 : l.length ≤ 50
  · have g0 : decide ((l.length : Int) > 50) = false := by simp; omega
    have HL := hid hl
    clear hl
    go_enter Try.func15, Try.ntmps15
    go_wp2_with fail
    go_loopg [5] l.length (fun k i wr => ∃ j : Nat, j ≤ l.length ∧ k = l.length - j ∧ i = .int .i64 j ∧ wr = w ∧ (l.take j).all OpR.fine = true)
    case atStart => exact ⟨0, Nat.zero_le _, rfl, rfl, rfl, by simp⟩
    case round =>
      obtain ⟨j, hj, rfl, rfl, rfl, htk⟩ := hrel
      have HT := hid htk
      clear htk
      by_cases hlt : j < l.length
      · obtain ⟨a, bA, bc, rfl, hb, _, hat⟩ := HL.out.at_ hlt
        have c6 := hat.c6
        rw [hb] at c6
        have HF : HidP (l[j].fine = !((decide (l[j].bs.length > 200) && decide (l[j].bs.length < 59990)) || decide (l[j].bs.length > 60010))) := hid rfl
        generalize hfj : l[j].fine = F at HF
        have hfj := hid hfj
        generalize l[j].bs.length = L at c6 HF
        clear hat hb
        have i0 : (0 : Int) ≤ (j : Int) := by omega
        have i1 : (j : Int) < (l.length : Int) := by omega
        by_cases h1 : L > 200
        · have g1 : decide ((L : Int) > 200) = true := by simp; omega
          by_cases h2 : L < 59990
          · have g2 : decide ((L : Int) < 59990) = true := by simp; omega
            go_wp2_with fail
            go_ret
            exact ⟨by rw [light_not hlt (by rw [hfj.out, HF.out]; simp [h1, h2])]; rfl, rfl⟩
          · have g2 : decide ((L : Int) < 59990) = false := by simp; omega
            by_cases h3 : L > 60010
            · have g3 : decide ((L : Int) > 60010) = true := by simp; omega
              go_wp2_with fail
              go_ret
              exact ⟨by rw [light_not hlt (by rw [hfj.out, HF.out]; simp [h3])]; rfl, rfl⟩
            · have g3 : decide ((L : Int) > 60010) = false := by simp; omega
              go_wp2_with fail
              go_roundg (l.length - (j + 1))
              case measure => omega
              case rel => exact ⟨j + 1, by omega, rfl, by go_num, rfl, light_next hlt (by rw [hfj.out, HF.out]; simp; omega) HT.out⟩
        · have g1 : decide ((L : Int) > 200) = false := by simp; omega
          have g3 : decide ((L : Int) > 60010) = false := by simp; omega
          go_wp2_with fail
          go_roundg (l.length - (j + 1))
          case measure => omega
          case rel => exact ⟨j + 1, by omega, rfl, by go_num, rfl, light_next hlt (by rw [hfj.out, HF.out]; simp; omega) HT.out⟩
      · obtain rfl : j = l.length := by omega
        go_wp2_with fail
        go_ret
        have ht := HT.out
        rw [List.take_length] at ht
        exact ⟨by simp [light, h50, ht], rfl⟩
  · have g0 : decide ((l.length : Int) > 50) = true := by simp; omega
    clear hl
    go_enter Try.func15, Try.ntmps15
    go_wp2_with fail
    go_ret
    exact ⟨by simp [light, h50], rfl⟩

end Go.Proofs.Ytodbnmigdnmjnaa
