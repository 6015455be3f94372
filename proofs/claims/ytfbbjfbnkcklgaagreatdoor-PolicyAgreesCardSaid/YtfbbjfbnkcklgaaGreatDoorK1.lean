/- the last slash; tree.Split -/
import Derived.Test.YtfbbjfbnkcklgaaGreatDoorT5
import Derived.Test.YtfbbjfbnkcklgaaGreatDoorI9
namespace Go.Proofs.YtfbbjfbnkcklgaaGreatDoor
open Go.RowKit

/-- where the last slash is -/
def lastIx (l : List UInt8) (r : Int) : Prop := (r = -1 ∧ 47 ∉ l) ∨ ∃ i : Nat, r = i ∧ l[i]? = some 47 ∧ 47 ∉ l.drop (i + 1)

set_option maxRecDepth 100000 in
set_option maxHeartbeats 1600000 in
theorem lastbyte (s : ByteArray) (w : World) (hs : s.size ≤ 140737488351232) : Calls Tryz.prog 144 #[.string s, .int .u8 47] w fun e w' => (∃ r, e = .returned (.int .i64 r) ∧ lastIx s.toList r) ∧ w = w' := by
  have hl := str_len s
  go_enter Tryz.func144, Tryz.ntmps144
  go_wp2_with fail
  go_loopg [5] s.size (fun k i wr => ∃ j : Nat, j ≤ s.size ∧ k = j ∧ i = .int .i64 ((j : Int) - 1) ∧ wr = w ∧ 47 ∉ s.toList.drop j)
  case atStart => exact ⟨s.size, Nat.le_refl _, rfl, by go_num, rfl, by rw [List.drop_of_length_le (by omega)]; simp⟩
  case round =>
    obtain ⟨j, hj, rfl, rfl, rfl, hno⟩ := hrel
    have HN := hid hno
    clear hno
    by_cases h0 : gk = 0
    · subst h0
      go_wp2_with fail
      go_ret
      exact ⟨⟨_, rfl, .inl ⟨rfl, by simpa using HN.out⟩⟩, rfl⟩
    · obtain ⟨g', rfl⟩ : ∃ g', gk = g' + 1 := ⟨gk - 1, by omega⟩
      have hlt : g' < s.size := by omega
      have hi0 : ((g' + 1 : Nat) : Int) - 1 = (g' : Int) := by omega
      have i0 : (0 : Int) ≤ (g' : Int) := by omega
      have i1 : (g' : Int) < (s.size : Int) := by omega
      have HG := hid (str_get s g' hlt)
      rw [hi0]
      cases d3 : ((s[g'].toNat : Int) == 47)
      · go_wp2_with fail
        go_roundg g'
        case measure => omega
        case rel => exact ⟨g', by omega, rfl, by go_num, rfl, nots_back HG.out (by simp at d3; omega) HN.out⟩
      · go_wp2_with fail
        go_ret
        have hx : s.toList[g']? = some 47 := by
          rw [HG.out]
          congr 1
          exact UInt8.toNat_inj.1 (by simp at d3; exact_mod_cast d3)
        exact ⟨⟨_, rfl, .inr ⟨g', rfl, hx, HN.out⟩⟩, rfl⟩

set_option maxHeartbeats 400000 in
theorem lastslash (s : ByteArray) (w : World) (hs : s.size ≤ 140737488351232) : Calls Tryz.prog 104 #[.string s, .int .u8 47] w fun e w' => (∃ r, e = .returned (.int .i64 r) ∧ lastIx s.toList r) ∧ w = w' := by
  have H := hid (lastbyte s w hs)
  go_enter Tryz.func104, Tryz.ntmps104
  go_wp2_with fail
  refine H.out.mono ?_
  rintro e w' ⟨⟨r, rfl, hr⟩, rfl⟩
  have hr := hid hr
  go_wp2_with fail
  go_ret
  exact ⟨⟨r, rfl, hr.out⟩, rfl⟩

set_option maxRecDepth 100000 in
set_option maxHeartbeats 1600000 in
theorem split_walk (s : ByteArray) (w : World) (hs : s.size ≤ 140737488351232) : Calls Tryz.prog 77 #[.string s] w fun e w' => (∃ d n : ByteArray, e = .returned (.tuple #[.string d, .string n]) ∧ (d.toList, n.toList) = splitL s.toList) ∧ Below w.heap.size w w' := by
  have hl := str_len s
  have H := hid (path_walk s hs w)
  unfold splitL
  cases hp : pathB s.toList
  · rw [hp] at H
    go_enter Tryz.func77, Tryz.ntmps77
    go_wp2_with fail
    refine H.out.mono ?_
    rintro e w' ⟨rfl, hb⟩
    go_wp2_with fail
    go_ret2
    exact ⟨⟨_, _, rfl, by simp⟩, hb⟩
  rw [hp] at H
  go_enter Tryz.func77, Tryz.ntmps77
  go_wp2_with fail
  refine H.out.mono ?_
  rintro e w1 ⟨rfl, hb⟩
  clear hp
  go_wp2_with fail
  refine (lastslash s w1 hs).mono ?_
  rintro e w2 ⟨⟨r, rfl, (⟨rfl, hno⟩ | ⟨i, rfl, hi, hno⟩)⟩, rfl⟩
  · have HN := hid hno
    clear hno
    have i0 : (0 : Int) ≤ (s.size : Int) := by omega
    go_wp2_with fail
    refine wp_region_under (by kernel_rfl) (by kernel_rfl) ?_
    repeat (go_big_quiet_step (fail))
    refine wpQuiet_nil ?_
    intro _ hw'
    obtain ⟨Wq, hw''⟩ := hw'
    subst hw''
    go_wp2_with fail
    go_ret2
    exact ⟨⟨_, _, rfl, by rw [dirL_none HN.out, nameL_none HN.out, ext_take]; simp; exact .inl (by decide)⟩, hb.trans ((under_below w1 Wq).mono hb.size)⟩
  · have hlt : i < s.size := by rw [← hl]; exact (List.getElem?_eq_some_iff.1 hi).1
    have HN := hid hno
    have HI := hid hi
    clear hno hi
    have i0 : (0 : Int) ≤ (i : Int) := by omega
    have i1 : (i : Int) ≤ (s.size : Int) := by omega
    have i2 : (i : Int) + 1 ≤ (s.size : Int) := by omega
    have i3 : (0 : Int) ≤ (i : Int) + 1 := by omega
    have hmx : (if (0 : Int) > (i : Int) then (0 : Int) else (i : Int)) = (i : Int) := if_neg (by omega)
    have hw : IntKind.i64.wrap ((i : Int) + 1) = (i : Int) + 1 := IntWalk.i64_in _ (by omega)
    go_wp2_with fail
    refine wp_region_under (by kernel_rfl) (by kernel_rfl) ?_
    repeat (go_big_quiet_step (fail))
    refine wpQuiet_nil ?_
    intro _ hw'
    obtain ⟨Wq, hw''⟩ := hw'
    subst hw''
    go_wp2_with fail
    go_ret2
    exact ⟨⟨_, _, rfl, by rw [dirL_slash HI.out HN.out, nameL_slash HI.out HN.out, ext_take, ext_drop]; exact ⟨rfl, rfl⟩⟩, hb.trans ((under_below w1 Wq).mono hb.size)⟩

end Go.Proofs.YtfbbjfbnkcklgaaGreatDoor
