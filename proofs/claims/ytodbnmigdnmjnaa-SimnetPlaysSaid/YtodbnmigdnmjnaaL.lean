/- SimnetOnce: ends that are none; all ends -/
import Derived.Test.YtodbnmigdnmjnaaK
namespace Go.Proofs.Ytodbnmigdnmjnaa
open Go.RowKit

theorem far_end (e1 : Int) (h : ¬ (0 ≤ e1 ∧ e1 < 2)) (hb : -9223372036854775808 ≤ e1) (hb2 : e1 ≤ 9223372036854775807) : offEnd (wrap64 (1 - e1)) := by
  refine offEnd_of ?_
  unfold wrap64
  omega

set_option maxRecDepth 100000 in
set_option maxHeartbeats 3200000 in
theorem once_bad (LA : Option Addr) (ln lc : Nat) (zs : List (List Int)) (cut : Bool) (w : World) (hl : Rows2 w (.slice LA ln lc) zs) (hn40 : ¬ 40 < zs.length) (e1 : Int) (he1 : ¬ (0 ≤ e1 ∧ e1 < 2)) (hb : -9223372036854775808 ≤ e1) (hb2 : e1 ≤ 9223372036854775807) :
    Calls Try.prog 3 #[.int .i64 e1, .slice LA ln lc, .bool cut] w fun e w' => e = .returned (.bool true) ∧ Below w.heap.size w w' := by
  obtain ⟨i0, hi, hz0, hz1, hz2⟩ := info_parts info5
  obtain rfl := hl.len
  have g1 : decide ((zs.length : Int) > 40) = false := by simp; omega
  have HL := hid hl
  have n0 : (e1 != 0) = true := by rw [bne_iff_ne]; omega
  have n1 : (e1 != 1) = true := by rw [bne_iff_ne]; omega
  have HF := hid (far_end e1 he1 hb hb2)
  have HO := hid he1
  have HE := hid (offEnd_of he1)
  clear hl he1 hb hb2
  go_enter Try.func3, Try.ntmps3
  go_wp2_with fail
  refine (new_pn 100 w (· < w.heap.size) (fun _ h => h) (by decide) (by decide)).mono ?_
  rintro e w1 ⟨rfl, hp1, hk1⟩
  have hP1 : Keep (· < w.heap.size) w w1 ∧ PN w1 (· < w.heap.size) w.heap.size 100 (fun _ => .slice none 0 0) false 0 0 (fun _ => []) (fun _ => []) := ⟨hk1, hp1⟩
  clear hp1 hk1
  go_wp2_with fail
  go_loopg [9, 10] 0 (fun k tot i wr => i = .int .i64 0 ∧ tot = .int .i64 0 ∧ wr = w1)
  case atStart => exact ⟨rfl, rfl, rfl⟩
  case round =>
    obtain ⟨rfl, rfl, rfl⟩ := hrel
    obtain ⟨hk, hp⟩ := hP1
    by_cases hlt : 0 < zs.length
    · obtain ⟨a, A', z, c', rfl, hcell, hsrc, hz⟩ := HL.out.at_ hk hlt
      have i0' : (0 : Int) < (zs.length : Int) := by omega
      replace hcell : wr.cell? a = some (.slice A' z.length c') := by simpa [Addr.add] using hcell
      by_cases h200 : z.length ≤ 200
      · have g2 : decide ((z.length : Int) > 200) = false := by simp; omega
        have hcellA := cellA hcell (.cells #[] 5 (0, 0))
        have hrow : Row (wr.alloc (.cells #[] 5 (0, 0))) 5 1 (.slice (some ⟨wr.heap.size, 0, none⟩) 0 0) [] := Row.ofBlock (n := 0) (heap_alloc_new wr _) (by simp) (by simp)
        have hsrc1 := hsrc.below ((Below.refl wr.heap.size wr).alloc (Nat.le_refl _) (.cells #[] 5 (0, 0)))
        have hnl := nums_length z
        have hc1 : ([] : List Value).length + (nums z).length ≤ maxLen := by simp only [List.length_nil, maxLen]; omega
        have hc2 : (([] : List Value).length + (nums z).length) * 1 ≤ 140737488355328 := by simp only [List.length_nil]; omega
        have hone := nums_one z
        clear hnl
        go_wp2_with (at_builtin; refine wpList_append_row _ rfl _ _ 28 rfl 5 i0 (.int .u8 0) 1 1 Try.underlying28 hi hz0 hz1 hz2 rfl (by decide) (.slice (some ⟨wr.heap.size, 0, none⟩) 0 0) [] rfl hrow (.slice A' z.length c') (nums z) rfl hsrc1 hone hc1 hc2 ?_; intro bA bn bc w2 hr2 hg2 ha2)
        have hb2 : Below wr.heap.size wr w2 := ((Below.refl wr.heap.size wr).alloc (Nat.le_refl _) _).grown hg2 (by simp) (by simp [Value.ownBlock])
        have hnet : w2.heap[w.heap.size]? = some (.cells (netCells 100 (fun _ => .slice none 0 0) false 0 0) 59 (0, 0)) := (hb2.block _ (blkLt hp.net)).trans hp.net
        have c4 := (blkCell hnet 4).trans rfl
        have hkk := hk.trans (Keep.ofBelow (R := (· < w.heap.size)) hb2 fun k hk _ => hk)
        clear hg2 ha2 hr2 hrow hsrc1 hc1 hc2 hone hcellA hcell hsrc hp hnet
        refine (send_off _ _ _ _ HO.out).mono ?_
        rintro e w' ⟨rfl, rfl⟩
        go_wp2_with fail
        refine (sent_any _ _ _ c4).mono ?_
        rintro e w' ⟨rfl, rfl⟩
        go_wp2_with fail
        refine (waits_off _ _ _ HE.out).mono ?_
        rintro e w' ⟨rfl, rfl⟩
        go_wp2_with fail
        refine (alive_any _).mono ?_
        rintro e w6 ⟨rfl, hb6⟩
        go_wp2_with fail
        go_ret
        exact ⟨rfl, (Below.ofKeep hkk (Nat.le_refl _)).trans (hb6.mono hkk.size)⟩
      · have g2 : decide ((z.length : Int) > 200) = true := by simp; omega
        clear hp hsrc
        go_wp2_with fail
        refine (alive_any _).mono ?_
        rintro e w' ⟨rfl, hb⟩
        go_wp2_with fail
        go_ret
        exact ⟨rfl, (Below.ofKeep hk (Nat.le_refl _)).trans (hb.mono hk.size)⟩
    · obtain rfl : zs = [] := List.eq_nil_of_length_eq_zero (by omega)
      cases cut
      · go_wp2_with fail
        go_loopg [16] 0 (fun k i wr' => i = .int .i64 0 ∧ wr' = wr)
        case atStart => exact ⟨rfl, rfl⟩
        case round =>
          obtain ⟨rfl, rfl⟩ := hrel
          have HN := hid (recv_none hp (wrap64 (1 - e1)) (.inl HF.out))
          have hpa := hp.alloc (.cells #[.slice none 0 0] 28 (0, 0))
          have hka := hk.alloc (.cells #[.slice none 0 0] 28 (0, 0))
          have cs := (blkCell hpa.net 4).trans rfl
          have cb := (blkCell hpa.net 5).trans rfl
          clear hp hpa hk
          go_wp2_with fail
          refine HN.out.mono ?_
          rintro e w5 ⟨rfl, rfl⟩
          go_wp2_with fail
          refine (sent_any _ _ _ cs).mono ?_
          rintro e w' ⟨rfl, rfl⟩
          go_wp2_with fail
          refine (bytes_any _ _ _ cb).mono ?_
          rintro e w' ⟨rfl, rfl⟩
          go_wp2_with fail
          refine (alive_any _).mono ?_
          rintro e w6 ⟨rfl, hb6⟩
          go_wp2_with fail
          go_ret
          exact ⟨rfl, (Below.ofKeep hka (Nat.le_refl _)).trans (hb6.mono hka.size)⟩
      · go_wp2_with fail
        refine (cut_true hp).mono ?_
        rintro e w5 ⟨rfl, hp5, hk5⟩
        have hk6 := hk.trans hk5
        have HN := hid (recv_none hp5 (wrap64 (1 - e1)) (.inl HF.out))
        have hpa := hp5.alloc (.cells #[.slice none 0 0] 28 (0, 0))
        have hka := hk6.alloc (.cells #[.slice none 0 0] 28 (0, 0))
        have c3 := (blkCell hpa.net 3).trans rfl
        have c1 := (blkCell hpa.net 1).trans rfl
        have c2 := (blkCell hpa.net 2).trans rfl
        clear hp hk hp5 hpa hk5 hk6
        go_wp2_with fail
        refine HN.out.mono ?_
        rintro e w5 ⟨rfl, rfl⟩
        go_wp2_with fail
        refine (send_cut_lit 0 false rfl _ _ _ c3).mono ?_
        rintro e w' ⟨rfl, rfl⟩
        go_wp2_with fail
        refine (waits_any _ 0 none 0 0 _ (by decide) (by decide) c1).mono ?_
        rintro e w' ⟨rfl, rfl⟩
        go_wp2_with fail
        refine (waits_any _ 1 none 0 0 _ (by decide) (by decide) c2).mono ?_
        rintro e w' ⟨rfl, rfl⟩
        go_wp2_with fail
        refine (alive_any _).mono ?_
        rintro e w6 ⟨rfl, hb6⟩
        go_wp2_with fail
        go_ret
        exact ⟨rfl, (Below.ofKeep hka (Nat.le_refl _)).trans (hb6.mono hka.size)⟩

set_option maxRecDepth 100000 in
set_option maxHeartbeats 800000 in
theorem once_long (LA : Option Addr) (ln lc : Nat) (cut : Bool) (w : World) (hn40 : 40 < ln) (e1 : Int) :
    Calls Try.prog 3 #[.int .i64 e1, .slice LA ln lc, .bool cut] w fun e w' => e = .returned (.bool true) ∧ Below w.heap.size w w' := by
  have g1 : decide ((ln : Int) > 40) = true := by simp; omega
  go_enter Try.func3, Try.ntmps3
  go_wp2_with fail
  refine (alive_any _).mono ?_
  rintro e w6 ⟨rfl, hb6⟩
  go_wp2_with fail
  go_ret
  exact ⟨rfl, hb6⟩

theorem once_walk (LA : Option Addr) (ln lc : Nat) (zs : List (List Int)) (cut : Bool) (w : World) (hl : Rows2 w (.slice LA ln lc) zs) (e1 : Int) (hb : -9223372036854775808 ≤ e1) (hb2 : e1 ≤ 9223372036854775807) :
    Calls Try.prog 3 #[.int .i64 e1, .slice LA ln lc, .bool cut] w fun e w' => e = .returned (.bool true) ∧ Below w.heap.size w w' := by
  have hln := hl.len
  by_cases h40 : 40 < zs.length
  · exact once_long LA ln lc cut w (by omega) e1
  by_cases h0 : e1 = 0
  · subst h0; exact once_true LA ln lc zs cut w hl h40
  by_cases h1 : e1 = 1
  · subst h1; exact once_false LA ln lc zs cut w hl h40
  exact once_bad LA ln lc zs cut w hl h40 e1 (by omega) hb hb2

end Go.Proofs.Ytodbnmigdnmjnaa
