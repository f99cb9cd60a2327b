/- RingOrder: what goes in comes out in that order, each once; never more are in than may be: the walk of the law, for every input. -/
import Derived.Test.YtjjldcnipgjfpaaOrd
namespace Go.Proofs.Ytjjldcnipgjfpaa
open Go.RowKit
attribute [local go_sem high] run_mxI run_mnI

theorem own_blk_lt {w : World} {B e size n : Nat} {v : Value} {xs : List Value} (h : w.ownsRow B e size v n xs) : ∀ g, v.ownBlock = some g → g < w.heap.size := fun g hg => (h.lt g hg).2

set_option maxHeartbeats 2000000 in
theorem order_walk (n : Int) {A : Option Addr} {len cap : Nat} (w : World) (h : ∃ l : List Deed, l.length = len ∧ len ≤ maxLen ∧ DeedsAt w w.heap.size A l) :
    Calls Try.prog 5 #[.int .i64 n, .slice A len cap] w fun e w' => e = .returned (.bool true) ∧ Below w.heap.size w w' := by
  obtain ⟨l, rfl, hmax, hd⟩ := h
  unfold maxLen at hmax
  have HD := hid hd
  clear hd
  obtain ⟨N, hN, hN1, hN2⟩ := most_nat n
  have HN := hid hN
  by_cases hfew : (decide (l.length ≤ 150) && l.all fun d => decide (d.text.size ≤ 70000)) = true
  · have hl : l.length ≤ 150 := by simp at hfew; exact hfew.1
    have HF := hid hfew
    clear hfew hmax
    go_enter Try.func5, Try.ntmps5
    go_wp2_with fail
    refine (few_any HD (by omega)).mono ?_
    rintro e w1 ⟨rfl, rfl⟩
    rw [HF.out]
    go_wp2_with fail
    refine (new_at HN.out).mono ?_
    rintro e w1 ⟨br, bl, rfl, hbr, hbl, hr, hb⟩
    obtain ⟨B, hB⟩ : ∃ B, B = w1.heap.size := ⟨_, rfl⟩
    have R0 : OrdRel w w1 B br bl N (.slice none 0 0) (.slice none 0 0) [] [] [] := by
      subst hB
      exact ⟨hr, World.ownsRow_nil _ _ _ _, World.ownsRow_nil _ _ _ _, .inl rfl, rfl, Nat.le_refl _, hb, ⟨hbr, hr.lt.1⟩, ⟨hbl, hr.lt.2⟩⟩
    have R1 := hid R0
    clear hr hb hbr hbl hB R0
    go_wp2_with fail
    go_loopw [6, 7, 8] (fun v6 v7 i wr => ∃ (k : Nat) (inn out L : List ByteArray), k ≤ l.length ∧ i = .int .i64 k ∧ inn.length ≤ k ∧ OrdRel w wr B br bl N v6 v7 inn out L) (fun _ _ i _ => l.length - (intOf i).toNat)
    case atStart => exact ⟨0, [], [], [], by omega, rfl, by simp, R1.out⟩
    case round =>
      obtain ⟨k, inn, out, L, hk, rfl, hin, hrel⟩ := hrel
      have R2 := hid hrel
      clear hrel
      obtain ⟨A6, c6, hv6⟩ := own_form R2.out.own6
      obtain ⟨A7, c7, hv7⟩ := own_form R2.out.own7
      rw [strs_length] at hv6 hv7
      subst hv6 hv7
      have hio : (inn.length : Int) - out.length = L.length := by rw [R2.out.list]; simp; omega
      have hio2 : out.length ≤ inn.length := by rw [R2.out.list]; simp
      have hLN := R2.out.ring.top.2.2
      have HIO := hid hio
      clear hio
      by_cases hkl : k < l.length
      · obtain ⟨ad, rfl, hb, hc⟩ := (HD.out.below R2.out.below) (by omega)
        obtain ⟨g0, _, g2⟩ := (hc k hkl)
        obtain ⟨d, hd⟩ : ∃ d, d = l.getD k default := ⟨_, rfl⟩
        rw [← hd] at g0 g2
        have HBL := hid hb
        clear hc hd hb
        by_cases hk1 : d.kind = 1
        · have hkb : (d.kind == 1) = true := by simp [hk1]
          clear hk1
          cases L with
          | nil =>
            have hz : (0 : Int) = (inn.length : Int) - out.length := HIO.out.symm
            have HZ : (0 != (inn.length : Int) - (out.length : Int)) = false := by rw [← hz]; rfl
            clear hz
            go_wp2_with fail
            refine (take_at_no R2.out.ring).mono ?_
            rintro e w3 ⟨rfl, rfl⟩
            go_wp2_with fail
            refine (len_at R2.out.ring).mono ?_
            rintro e w3 ⟨rfl, rfl⟩
            go_wp2_with fail
            refine (len_at R2.out.ring).mono ?_
            rintro e w3 ⟨rfl, rfl⟩
            go_wp2_with fail
            go_roundw
            case rel => exact ⟨k + 1, inn, out, [], by omega, by go_num, by omega, R2.out⟩
            case measure => simp [intOf]; omega
          | cons s L' =>
            go_wp2_with fail
            refine (take_yes (hid R2.out.ring)).mono ?_
            rintro e w3 ⟨rfl, hr, ho⟩
            have R3 := hid hr
            have O3 := hid ho
            have H7 := hid (R2.out.only hr ho)
            clear hr ho
            have hsz := hid (show ((strs out).length + [Value.string s].length) * 16 ≤ 140737488355328 by rw [strs_length]; simp; omega)
            go_wp2_with (at_builtin; refine wpList_app _ rfl (.tmp 35) (.tmp 37) 32 9 (.string ⟨#[]⟩) 16 rfl Try.underlying32 info9 rfl (by decide) B (.slice A7 out.length c7) (strs out) rfl ?own (w3.alloc (.cells #[.string s] 9)).heap.size (some ⟨w3.heap.size, 0, none⟩) 1 1 [.string s] rfl rfl ?hold ?one hsz.out ?base ?_)
            case own => exact (H7.out.2.1).alloc _
            case hold => exact Holds.one w3 9 (.string s)
            case one =>
              intro u hu
              simp only [List.mem_singleton] at hu
              subst hu
              rfl
            case base =>
              have := H7.out.2.2.1
              simp
              omega
            intro v' w4 hown hg hat
            have R4 := hid (R2.out.take R3.out O3.out (v' := v') (w4 := w4) (by simpa using hown) hg (by simpa using hat))
            clear hown hg hat
            obtain ⟨A8, c8, hv8⟩ := own_form R4.out.own7
            rw [strs_length] at hv8
            simp only [List.length_append, List.length_singleton] at hv8
            subst hv8
            have HZ : ((L'.length : Int) != (inn.length : Int) - ((out.length : Int) + 1)) = false := by
              have := HIO.out
              simp only [List.length_cons] at this
              simp only [bne_eq_false_iff_eq]
              omega
            go_wp2_with fail
            refine (len_at R4.out.ring).mono ?_
            rintro e w5 ⟨rfl, rfl⟩
            go_wp2_with fail
            refine (len_at R4.out.ring).mono ?_
            rintro e w5 ⟨rfl, rfl⟩
            have hLN' : L'.length ≤ N := by simp at hLN; omega
            go_wp2_with fail
            go_roundw
            case rel => exact ⟨k + 1, inn, out ++ [s], L', by omega, by go_num, by omega, R4.out⟩
            case measure => simp [intOf]; omega
        · have hkb : (d.kind == 1) = false := by simp [hk1]
          clear hk1
          by_cases hput : L.length < N ∧ d.text.size ≤ 65536
          · obtain ⟨hp1, hp2⟩ := hput
            go_wp2_with fail
            refine (put_at_yes R2.out.ring hp1 hp2).mono ?_
            rintro e w3 ⟨rfl, hr, ho⟩
            have R3 := hid hr
            have O3 := hid ho
            have H7 := hid (R2.out.only hr ho)
            have hg2 : w3.cell? ⟨(ad.add (k * 3)).block, (ad.add (k * 3)).off + 2, none⟩ = some (.string d.text) := ho.cell g2 (by
              have h1 := R2.out.br
              have h2 := R2.out.bl
              have h3 := HBL.out
              rw [← block_add ad (k * 3)] at h3
              rintro (h4 | h4)
              · have h5 : (ad.add (k * 3)).block = br := h4
                omega
              · have h5 : (ad.add (k * 3)).block = bl := h4
                omega)
            clear hr ho g0 g2
            have hsz := hid (show ((strs inn).length + [Value.string d.text].length) * 16 ≤ 140737488355328 by rw [strs_length]; simp; omega)
            go_wp2_with (at_builtin; refine wpList_app _ rfl (.tmp 46) (.tmp 52) 32 9 (.string ⟨#[]⟩) 16 rfl Try.underlying32 info9 rfl (by decide) B (.slice A6 inn.length c6) (strs inn) rfl ?own2 (w3.alloc (.cells #[.string d.text] 9)).heap.size (some ⟨w3.heap.size, 0, none⟩) 1 1 [.string d.text] rfl rfl ?hold2 ?one2 hsz.out ?base2 ?_)
            case own2 => exact (H7.out.1).alloc _
            case hold2 => exact Holds.one w3 9 (.string d.text)
            case one2 =>
              intro u hu
              simp only [List.mem_singleton] at hu
              subst hu
              rfl
            case base2 =>
              have := H7.out.2.2.1
              simp
              omega
            intro v' w4 hown hg hat
            have R4 := hid (R2.out.put R3.out O3.out (v' := v') (w4 := w4) (by simpa using hown) hg (by simpa using hat))
            clear hown hg hat
            obtain ⟨A8, c8, hv8⟩ := own_form R4.out.own6
            rw [strs_length] at hv8
            simp only [List.length_append, List.length_singleton] at hv8
            subst hv8
            have HZ : ((L.length : Int) + 1 != (inn.length : Int) + 1 - (out.length : Int)) = false := by
              have := HIO.out
              simp only [bne_eq_false_iff_eq]
              omega
            go_wp2_with fail
            refine (len_at R4.out.ring).mono ?_
            rintro e w5 ⟨rfl, rfl⟩
            go_wp2_with fail
            refine (len_at R4.out.ring).mono ?_
            rintro e w5 ⟨rfl, rfl⟩
            go_wp2_with fail
            go_roundw
            case rel => exact ⟨k + 1, inn ++ [d.text], out, L ++ [d.text], by omega, by go_num, by simp; omega, R4.out⟩
            case measure => simp [intOf]; omega
          · go_wp2_with fail
            refine (put_at_no R2.out.ring (by omega)).mono ?_
            rintro e w3 ⟨rfl, hr, ho⟩
            have R4 := hid (R2.out.same hr ho)
            clear hr ho g0 g2
            have HZ : ((L.length : Int) != (inn.length : Int) - (out.length : Int)) = false := by
              have := HIO.out
              simp only [bne_eq_false_iff_eq]
              omega
            go_wp2_with fail
            refine (len_at R4.out.ring).mono ?_
            rintro e w5 ⟨rfl, rfl⟩
            go_wp2_with fail
            refine (len_at R4.out.ring).mono ?_
            rintro e w5 ⟨rfl, rfl⟩
            go_wp2_with fail
            go_roundw
            case rel => exact ⟨k + 1, inn, out, L, by omega, by go_num, by omega, R4.out⟩
            case measure => simp [intOf]; omega
      · obtain rfl : k = l.length := by omega
        go_wp2_with fail
        refine (all_at R2.out.ring).mono ?_
        rintro e w3 ⟨v, rfl, hown, hb⟩
        obtain ⟨A3, c3, hv3⟩ := own_form hown
        rw [strs_length] at hv3
        subst hv3
        have H3 : Holds w3 w3.heap.size A3 (strs L) := Holds.of_own (n := (strs L).length) (c := c3) (by rw [strs_length]; rw [strs_length] at hown; exact hown)
        have HH := hid H3
        have BB := hid hb
        have O6 := hid (own_keep R2.out.own6 (w' := w3) fun q _ hq => hb.block q hq)
        have O7 := hid (own_keep R2.out.own7 (w' := w3) fun q _ hq => hb.block q hq)
        clear hown hb H3
        have hsz := hid (show ((strs out).length + (strs L).length) * 16 ≤ 140737488355328 by rw [strs_length, strs_length]; omega)
        go_wp2_with (at_builtin; refine wpList_app _ rfl (.tmp 70) (.tmp 72) 32 9 (.string ⟨#[]⟩) 16 rfl Try.underlying32 info9 rfl (by decide) B (.slice A7 out.length c7) (strs out) rfl ?own3 w3.heap.size A3 c3 L.length (strs L) rfl ?len3 ?hold3 ?one3 hsz.out ?base3 ?_)
        case own3 => exact O7.out
        case len3 => exact strs_length _
        case hold3 => exact HH.out
        case one3 => exact strs_one _
        case base3 => exact Nat.le_trans R2.out.base BB.out.size
        intro v' w4 hown hg _
        have hx : Hid (w4.ownsRow B 9 1 v' (strs inn).length (strs inn)) := hid (by
          have e1 : strs inn = strs out ++ strs L := by rw [R2.out.list, strs_append]
          rw [e1]
          simpa using hown)
        obtain ⟨A8, c8, hv8⟩ := own_form hx.out
        rw [strs_length] at hv8
        subst hv8
        have h8 : Hid (Holds w4 w4.heap.size A8 (strs inn)) := hid (Holds.of_own (n := (strs inn).length) (c := c8) (by have := hx.out; rw [strs_length]; rw [strs_length] at this; exact this))
        have h6 : Hid (Holds w4 w4.heap.size A6 (strs inn)) := hid (Holds.of_own (n := (strs inn).length) (c := c6) (by have := O6.out.kept hg R2.out.ne; rw [strs_length]; rw [strs_length] at this; exact this))
        have B4 : Hid (Below w.heap.size w w4) := hid ((R2.out.below.trans (BB.out.mono R2.out.below.size)).grown hg (Nat.le_trans R2.out.below.size BB.out.size) fun q hq => by
          have := own_ge O7.out q hq
          have := R2.out.br
          omega)
        clear hown hg
        go_wp2_with fail
        refine (texts_any h8 h6 (by omega)).mono ?_
        rintro e w5 ⟨rfl, j, rfl⟩
        go_wp2_with fail
        refine (awake_any _).mono ?_
        rintro e w6 ⟨rfl, hb⟩
        have B6 := hid hb
        clear hb
        go_wp2_with fail
        go_ret
        exact ⟨rfl, (below_drewN B4.out j).trans (B6.out.mono (below_drewN B4.out j).size)⟩
  · have hfew' : (decide (l.length ≤ 150) && l.all fun d => decide (d.text.size ≤ 70000)) = false := by simpa using hfew
    have HF := hid hfew'
    clear hfew hfew'
    go_enter Try.func5, Try.ntmps5
    go_wp2_with fail
    refine (few_any HD hmax).mono ?_
    rintro e w1 ⟨rfl, rfl⟩
    rw [HF.out]
    go_wp2_with fail
    refine (awake_any _).mono ?_
    rintro e w6 ⟨rfl, hb⟩
    have B6 := hid hb
    clear hb
    go_wp2_with fail
    go_ret
    exact ⟨rfl, B6.out⟩

end Go.Proofs.Ytjjldcnipgjfpaa
