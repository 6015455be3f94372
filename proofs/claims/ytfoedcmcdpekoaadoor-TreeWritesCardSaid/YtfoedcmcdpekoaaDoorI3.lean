/- the reference's dir -/
import Derived.Test.YtfoedcmcdpekoaaDoorI2
import Derived.Test.YtfoedcmcdpekoaaDoorU
namespace Go.Proofs.YtfoedcmcdpekoaaDoor
open Go.RowKit

/-- the item at a path -/
def findA (t : List AIt) (q : List UInt8) : Option AIt := t.find? (fun x => x.p == q)
/-- what is wrong with the directory of a path -/
def dirA (t : List AIt) (q : List UInt8) : Int := if (splitL q).1 = [] then 0 else match findA t (splitL q).1 with
  | none => 5
  | some x => if x.d then 0 else 7
theorem find_abs (l : List Itm) (q : List UInt8) : findA (l.map Itm.abs) q = (l.find? (fun x => x.p.toList == q)).map Itm.abs := by
  unfold findA
  rw [List.find?_map]
  rfl

set_option maxRecDepth 100000 in
set_option maxHeartbeats 1600000 in
theorem refdir (A : Option Addr) (c : Nat) (l : List Itm) (q : ByteArray) (w : World) (h : Tr w A c l) (hq : q.size ≤ 140737488351232) :
    Calls Tryd.prog 44 #[.slice A l.length c, .string q] w fun e w' => e = .returned (.int .i64 (dirA (l.map Itm.abs) q.toList)) ∧ Below w.heap.size w w' := by
  have H := hid (refsplit q w hq)
  go_enter Tryd.func44, Tryd.ntmps44
  go_wp2_with fail
  refine H.out.mono ?_
  rintro e w1 ⟨⟨d, n, rfl, hdn⟩, hb⟩
  have hd : (splitL q.toList).1 = d.toList := by rw [← hdn]
  have HF := hid (reffind A c l d w1 (h.below hb))
  have e0 : dirA (l.map Itm.abs) q.toList = if d.toList = [] then 0 else match (l.find? (fun x => x.p.toList == d.toList)).map Itm.abs with
    | none => 5
    | some x => if x.d then 0 else 7 := by
    unfold dirA
    rw [hd, find_abs]
  have HE := hid e0
  clear H e0 hd hdn
  go_wp2_with fail
  refine HF.out.mono ?_
  rintro e w2 ⟨hb2, (⟨x, hx, rfl⟩ | ⟨hx, rfl⟩)⟩
  all_goals have hb3 := hb.trans (hb2.mono hb.size)
  all_goals have HE := HE.out
  all_goals rw [hx] at HE
  all_goals clear HF h
  · by_cases hd : d.toList = []
    · have g1 : (d.toList == []) = true := by simp [hd]
      rw [if_pos hd] at HE
      have HE := hid HE
      go_wp2_with fail
      go_ret
      exact ⟨by rw [HE.out]; rfl, hb3.alloc hb3.size _⟩
    · have g1 : (d.toList == []) = false := by simp [hd]
      rw [if_neg hd] at HE
      have HE := hid HE
      cases hxd : x.d
      · go_wp2_with fail
        go_ret
        exact ⟨by rw [HE.out]; simp [Itm.abs, hxd], hb3.alloc hb3.size _⟩
      · go_wp2_with fail
        go_ret
        exact ⟨by rw [HE.out]; simp [Itm.abs, hxd], hb3.alloc hb3.size _⟩
  · by_cases hd : d.toList = []
    · have g1 : (d.toList == []) = true := by simp [hd]
      rw [if_pos hd] at HE
      have HE := hid HE
      go_wp2_with fail
      go_ret
      exact ⟨by rw [HE.out]; rfl, hb3.alloc hb3.size _⟩
    · have g1 : (d.toList == []) = false := by simp [hd]
      rw [if_neg hd] at HE
      have HE := hid HE
      go_wp2_with fail
      go_ret
      exact ⟨by rw [HE.out]; simp, hb3.alloc hb3.size _⟩
end Go.Proofs.YtfoedcmcdpekoaaDoor
