/- What the reference functions of chapter 8 answer. -/
import Derived.Test.YtjjldcnipgjfpaaOrd
namespace Go.Proofs.Ytjjldcnipgjfpaa
open Go.RowKit
attribute [local go_sem high] run_mxI run_mnI

set_option maxHeartbeats 400000 in
theorem refnew_any {n : Int} {N : Nat} {w : World} (hN : mnI (mxI n 1) 64 = N) :
    Calls Try.prog 14 #[.int .i64 n] w fun e w' => e = .returned (.agg #[.int .i64 N, .slice none 0 0]) ∧ Below w.heap.size w w' := by
  go_enter Try.func14, Try.ntmps14
  go_wp2
  refine bodyPost_ret (v := .agg #[.int .i64 N, .slice none 0 0]) (by simp [results, Try.results14, go_sem]) rfl ⟨rfl, ?_⟩
  exact (Below.refl _ _).alloc (Nat.le_refl _) _

set_option maxHeartbeats 400000 in
theorem refput_no {N : Nat} {A : Option Addr} {c : Nat} {L : List ByteArray} {s : ByteArray} {w : World} (h : N ≤ L.length ∨ 65536 < s.size) :
    Calls Try.prog 15 #[.agg #[.int .i64 N, .slice A L.length c], .string s] w fun e w' => e = .returned (.tuple #[.agg #[.int .i64 N, .slice A L.length c], .bool false]) ∧ Below w.heap.size w w' := by
  have hb : Below w.heap.size w ((w.alloc (.cells #[.int .i64 N, .slice A L.length c] 34)).alloc (.cells #[.int .i64 N, .slice A L.length c] 34)) := ((Below.refl _ _).alloc (Nat.le_refl _) _).alloc (by simp) _
  have HB := hid hb
  clear hb
  by_cases h1 : N ≤ L.length
  · have hd : decide (N ≤ L.length) = true := by simpa using h1
    clear h
    go_enter Try.func15, Try.ntmps15
    go_wp2
    refine bodyPost_ret (v := .tuple #[.agg #[.int .i64 N, .slice A L.length c], .bool false]) (by simp [results, Try.results15, go_sem]) rfl ⟨rfl, ?_⟩
    exact HB.out
  · have hd : decide (N ≤ L.length) = false := by simpa using h1
    have hs : 65536 < s.size := by omega
    clear h
    go_enter Try.func15, Try.ntmps15
    go_wp2
    refine bodyPost_ret (v := .tuple #[.agg #[.int .i64 N, .slice A L.length c], .bool false]) (by simp [results, Try.results15, go_sem]) rfl ⟨rfl, ?_⟩
    exact HB.out

set_option maxHeartbeats 400000 in
theorem refpeek_no {N : Nat} {A : Option Addr} {c : Nat} {i : Int} {n : Nat} {w : World} (h : i < 0 ∨ (n : Int) ≤ i) :
    Calls Try.prog 16 #[.agg #[.int .i64 N, .slice A n c], .int .i64 i] w fun e w' => e = .returned (.tuple #[.string ⟨#[]⟩, .bool false]) ∧ Below w.heap.size w w' := by
  by_cases h1 : i < 0
  · clear h
    go_enter Try.func16, Try.ntmps16
    go_wp2
    go_ret2
    exact ⟨rfl, (Below.refl _ _).alloc (Nat.le_refl _) _⟩
  · have h2 : (n : Int) ≤ i := by omega
    clear h
    go_enter Try.func16, Try.ntmps16
    go_wp2
    go_ret2
    exact ⟨rfl, (Below.refl _ _).alloc (Nat.le_refl _) _⟩

set_option maxHeartbeats 400000 in
theorem refpeek_yes {N : Nat} {ad : Addr} {c i n : Nat} {s : ByteArray} {w : World} (h : i < n) (hc : w.cell? (ad.add i) = some (.string s)) :
    Calls Try.prog 16 #[.agg #[.int .i64 N, .slice (some ad) n c], .int .i64 (i : Int)] w fun e w' => e = .returned (.tuple #[.string s, .bool true]) ∧ Below w.heap.size w w' := by
  have hlt := hid (show (ad.add i).block < w.heap.size from World.block_lt_of_cell? w _ hc)
  have hc' : (w.alloc (.cells #[.int .i64 N, .slice (some ad) n c] 34)).cell? (ad.add i) = some (.string s) := (World.cell?_alloc_lt w _ _ hlt.out).trans hc
  go_enter Try.func16, Try.ntmps16
  go_wp2
  go_ret2
  exact ⟨rfl, (Below.refl _ _).alloc (Nat.le_refl _) _⟩

set_option maxHeartbeats 800000 in
theorem refput_yes {N : Nat} {A : Option Addr} {c : Nat} {L : List ByteArray} {s : ByteArray} {w : World} (h1 : L.length < N) (h2 : s.size ≤ 65536) (hL : L.length ≤ 64) (hr : Hid (Holds w w.heap.size A (strs L))) :
    Calls Try.prog 15 #[.agg #[.int .i64 N, .slice A L.length c], .string s] w fun e w' => ∃ A' c', e = .returned (.tuple #[.agg #[.int .i64 N, .slice A' (L ++ [s]).length c'], .bool true]) ∧
      w'.ownsRow w.heap.size 9 1 (.slice A' (L ++ [s]).length c') (strs (L ++ [s])).length (strs (L ++ [s])) ∧ Below w.heap.size w w' := by
  have hd : decide (N ≤ L.length) = false := by simpa using h1
  obtain ⟨w1, hw1⟩ : ∃ w1, w1 = (w.alloc (.cells #[.int .i64 N, .slice A L.length c] 34)).alloc (.cells #[.int .i64 0, .slice none 0 0] 34) := ⟨_, rfl⟩
  have HW := hid hw1
  have hB1 := hid (show Below w.heap.size w w1 by rw [hw1]; exact ((Below.refl _ _).alloc (Nat.le_refl _) _).alloc (by simp) _)
  have hb0 := hid (show Blk w1 w.heap.size 34 #[.int .i64 N, .slice A L.length c] by rw [hw1]; exact (Blk.new _ _ _).alloc _)
  have hb1 := hid (show Blk w1 (w.heap.size + 1) 34 #[.int .i64 0, .slice none 0 0] by rw [hw1]; have := Blk.new (w.alloc (.cells #[.int .i64 N, .slice A L.length c] 34)) 34 #[.int .i64 0, .slice none 0 0]; simpa using this)
  have hr1 := hid (hr.out.below hB1.out)
  have hs1 := hid (show (([] : List Value).length + (strs L).length) * 16 ≤ 140737488355328 by rw [strs_length]; simp; omega)
  have hs2 := hid (show ((strs L).length + [Value.string s].length) * 16 ≤ 140737488355328 by rw [strs_length]; simp; omega)
  clear hw1
  go_enter Try.func15, Try.ntmps15
  go_wp2_with (at_builtin; refine wpList_app _ rfl (.const (.slice none 0 0)) (.tmp 19) 32 9 (.string ⟨#[]⟩) 16 rfl Try.underlying32 info9 rfl (by decide) (w.heap.size + 2) (.slice none 0 0) [] rfl ?own w.heap.size A c L.length (strs L) rfl ?len ?hold ?one hs1.out ?base ?_)
  case own => exact World.ownsRow_nil _ _ _ _
  case len => exact strs_length _
  case hold => rw [← HW.out]; exact hr1.out
  case one => exact strs_one _
  case base => simp
  rw [← HW.out]
  intro v2 w2 hown2 hg2 _
  have hz1 : w1.heap.size = w.heap.size + 2 := by rw [HW.out]; simp
  have HZ1 := hid hz1
  have hB2 : Below (w.heap.size + 2) w1 w2 := (Below.refl _ _).grown hg2 (by omega) (by simp [Value.ownBlock])
  clear hz1
  have hz2 := hid hg2.size
  have HB2 := hid hB2
  have HO2 := hid hown2
  obtain ⟨A2, c2, hv2⟩ := own_form hown2
  rw [strs_length] at hv2
  subst hv2
  clear hown2 hg2 hB2
  have e0 : w2.cell? ⟨w.heap.size, 0, none⟩ = some (.int .i64 N) := (HB2.out.cell (by simp)).trans (by rw [hb0.out.cell]; rfl)
  go_wp2_with (at_builtin; refine wpList_app _ rfl (.tmp 20) (.tmp 22) 32 9 (.string ⟨#[]⟩) 16 rfl Try.underlying32 info9 rfl (by decide) (w.heap.size + 2) (.slice A2 L.length c2) (strs L) rfl ?own3 (w2.alloc (.cells #[.string s] 9)).heap.size (some ⟨w2.heap.size, 0, none⟩) 1 1 [.string s] rfl rfl ?hold3 ?one3 hs2.out ?base3 ?_)
  case own3 => exact HO2.out.alloc _
  case hold3 => exact Holds.one w2 9 (.string s)
  case one3 =>
    intro u hu
    simp only [List.mem_singleton] at hu
    subst hu
    rfl
  case base3 =>
    have := hz2.out
    have := HZ1.out
    simp
    omega
  intro v3 w3 hown3 hg3 _
  have hB3 : Below (w.heap.size + 2) w1 w3 := (HB2.out.alloc (by have := hz2.out; have := HZ1.out; omega) _).grown hg3 (by have := hz2.out; have := HZ1.out; simp; omega) (own_ge HO2.out)
  have hx : Hid (w3.ownsRow (w.heap.size + 2) 9 1 v3 (strs (L ++ [s])).length (strs (L ++ [s]))) := hid (by rw [show strs (L ++ [s]) = strs L ++ [Value.string s] from strs_append _ _]; simpa using hown3)
  obtain ⟨A3, c3, hv3⟩ := own_form hx.out
  rw [strs_length] at hv3
  subst hv3
  have b0 := (hb0.out.below hB3 (by omega))
  have b1 := (hb1.out.below hB3 (by omega))
  have HB3 := hid hB3
  clear hown3 hg3 hB3 e0
  have e0 : w3.cell? ⟨w.heap.size, 0, none⟩ = some (.int .i64 N) := by rw [b0.cell]; rfl
  have e1 : w3.cell? ⟨w.heap.size, 1, none⟩ = some (.slice A L.length c) := by rw [b0.cell]; rfl
  have e2 : w3.cell? ⟨w.heap.size + 1, 0, none⟩ = some (.int .i64 0) := by rw [b1.cell]; rfl
  have e3 : w3.cell? ⟨w.heap.size + 1, 1, none⟩ = some (.slice none 0 0) := by rw [b1.cell]; rfl
  have f1 := b0.frozen 1
  have f2 := b1.frozen 0
  have f3 := b1.frozen 1
  have hsz := hid b1.lt
  clear b0 b1
  go_wp2
  refine bodyPost_ret (v := .tuple #[.agg #[.int .i64 N, .slice A3 (L ++ [s]).length c3], .bool true]) ?_ rfl ⟨A3, c3, rfl, ?_, ?_⟩
  · simp [results, Try.results15, go_sem, *]
  · exact own_lower (ownsRow_setCell_below (ownsRow_setCell_below (ownsRow_setCell_below hx.out (by simp) _) (by simp) _) (by simp) _) (by omega)
  · exact (((hB1.out.trans (HB3.out.mono (by omega))).setCell (by simp) _).setCell (by simp) _).setCell (by simp) _

theorem run_cut_from {P : Program} (t e : TypeId) (kl : IntKind) {z : Value} {bytes : Nat} (ht : P.underlying t = some (.slice e)) (hinfo : (P.info? e).map (fun i => (i.zero, i.size, i.bytes)) = some (some z, 1, bytes)) (A : Option Addr) (n c m : Nat) (hm : m ≤ n) :
    ∃ A' : Option Addr, (∀ W : World, (Instr.slice t (.slice A n c) (some (.int kl (m : Int))) none none).run P W = .ok (.slice A' (n - m) (c - m)) W) ∧
      ∀ (w : World) (B : Nat) (xs : List Value), xs.length = n → n ≤ c → Holds w B A xs → Holds w B A' (xs.drop m) := by
  obtain ⟨i, hi, hzz⟩ := Option.map_eq_some_iff.1 hinfo
  simp only [Prod.mk.injEq] at hzz
  refine ⟨if c = m then A else A.map (·.add m), fun W => ?_, fun w B xs hl hc h hn => ?_⟩
  · have hel : P.elem t = e := by simp [Program.elem, ht]
    have hu : P.underlying t = some (.slice (P.elem t)) := by rw [hel]; exact ht
    rw [run_slice_l W t A n c hu kl (m : Int) (Int.natCast_nonneg _) (by omega), hel]
    simp [sizeOf, typeInfo, hi, hzz.2.1, sliced, Result.andThen]
  · rw [List.length_drop] at hn
    obtain ⟨ad, rfl, hb, hcell⟩ := h (by omega)
    rw [if_neg (by omega)]
    refine ⟨ad.add m, rfl, by rw [block_add]; exact hb, fun j u hu => ?_⟩
    rw [Go.Deep.add_add]
    exact hcell _ u (by rw [← hu, List.getElem?_drop])

set_option maxHeartbeats 800000 in
theorem refdrop_any {N m : Nat} {A : Option Addr} {c : Nat} {L : List ByteArray} {x : Int} {w : World} (hm : mnI (mxI x 0) L.length = m) (hL : L.length ≤ 64) (hc : L.length ≤ c) (hr : Hid (Holds w w.heap.size A (strs L))) :
    Calls Try.prog 17 #[.agg #[.int .i64 N, .slice A L.length c], .int .i64 x] w fun e w' => ∃ A' c', e = .returned (.tuple #[.agg #[.int .i64 N, .slice A' (L.drop m).length c'], .int .i64 m]) ∧
      w'.ownsRow w.heap.size 9 1 (.slice A' (L.drop m).length c') (strs (L.drop m)).length (strs (L.drop m)) ∧ Below w.heap.size w w' := by
  have hmL : m ≤ L.length := by unfold mnI mxI at hm; split at hm <;> split at hm <;> omega
  obtain ⟨w1, hw1⟩ : ∃ w1, w1 = (w.alloc (.cells #[.int .i64 N, .slice A L.length c] 34)).alloc (.cells #[.int .i64 0, .slice none 0 0] 34) := ⟨_, rfl⟩
  have HW := hid hw1
  have hB1 := hid (show Below w.heap.size w w1 by rw [hw1]; exact ((Below.refl _ _).alloc (Nat.le_refl _) _).alloc (by simp) _)
  have hb0 := hid (show Blk w1 w.heap.size 34 #[.int .i64 N, .slice A L.length c] by rw [hw1]; exact (Blk.new _ _ _).alloc _)
  have hb1 := hid (show Blk w1 (w.heap.size + 1) 34 #[.int .i64 0, .slice none 0 0] by rw [hw1]; have := Blk.new (w.alloc (.cells #[.int .i64 N, .slice A L.length c] 34)) 34 #[.int .i64 0, .slice none 0 0]; simpa using this)
  have hr1 := hid (hr.out.below hB1.out)
  obtain ⟨A1, hcut, hA1⟩ := run_cut_from (P := Try.prog) 32 9 .i64 Try.underlying32 info9 A L.length c m hmL
  have hA2 := hid (hA1 w1 w.heap.size (strs L) (strs_length L) hc hr1.out)
  have hs1 := hid (show (([] : List Value).length + ((strs L).drop m).length) * 16 ≤ 140737488355328 by rw [List.length_drop, strs_length]; simp; omega)
  clear hw1 hA1
  go_enter Try.func17, Try.ntmps17
  go_wp2_with (at_builtin; refine wpList_app _ rfl (.const (.slice none 0 0)) (.tmp 15) 32 9 (.string ⟨#[]⟩) 16 rfl Try.underlying32 info9 rfl (by decide) (w.heap.size + 2) (.slice none 0 0) [] rfl ?own w.heap.size A1 (c - m) (L.length - m) ((strs L).drop m) rfl ?len ?hold ?one hs1.out ?base ?_)
  case own => exact World.ownsRow_nil _ _ _ _
  case len => rw [List.length_drop, strs_length]
  case hold => rw [← HW.out]; exact hA2.out
  case one => exact fun u hu => strs_one L u (List.mem_of_mem_drop hu)
  case base => simp
  rw [← HW.out]
  intro v3 w3 hown3 hg3 _
  have hz1 : w1.heap.size = w.heap.size + 2 := by rw [HW.out]; simp
  have hB3 : Below (w.heap.size + 2) w1 w3 := (Below.refl _ _).grown hg3 (by omega) (by simp [Value.ownBlock])
  have hx : Hid (w3.ownsRow (w.heap.size + 2) 9 1 v3 (strs (L.drop m)).length (strs (L.drop m))) := hid (by rw [show strs (L.drop m) = (strs L).drop m from by simp [strs]]; simpa using hown3)
  obtain ⟨A3, c3, hv3⟩ := own_form hx.out
  rw [strs_length] at hv3
  subst hv3
  have b0 := (hb0.out.below hB3 (by omega))
  have b1 := (hb1.out.below hB3 (by omega))
  have HB3 := hid hB3
  clear hown3 hg3 hB3 hz1
  have e0 : w3.cell? ⟨w.heap.size, 0, none⟩ = some (.int .i64 N) := by rw [b0.cell]; rfl
  have e1 : w3.cell? ⟨w.heap.size, 1, none⟩ = some (.slice A L.length c) := by rw [b0.cell]; rfl
  have e2 : w3.cell? ⟨w.heap.size + 1, 0, none⟩ = some (.int .i64 0) := by rw [b1.cell]; rfl
  have e3 : w3.cell? ⟨w.heap.size + 1, 1, none⟩ = some (.slice none 0 0) := by rw [b1.cell]; rfl
  have f1 := b0.frozen 1
  have f2 := b1.frozen 0
  have f3 := b1.frozen 1
  have hsz := hid b1.lt
  clear b0 b1
  go_wp2
  refine bodyPost_ret (v := .tuple #[.agg #[.int .i64 N, .slice A3 (L.drop m).length c3], .int .i64 m]) ?_ rfl ⟨A3, c3, rfl, ?_, ?_⟩
  · simp [results, Try.results17, go_sem, *]
  · exact own_lower (ownsRow_setCell_below (ownsRow_setCell_below (ownsRow_setCell_below hx.out (by simp) _) (by simp) _) (by simp) _) (by omega)
  · exact (((hB1.out.trans (HB3.out.mono (by omega))).setCell (by simp) _).setCell (by simp) _).setCell (by simp) _

end Go.Proofs.Ytjjldcnipgjfpaa
