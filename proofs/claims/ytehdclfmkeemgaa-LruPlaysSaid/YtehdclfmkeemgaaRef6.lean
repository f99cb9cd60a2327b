/- What the reference function Put of chapter 6 answers. -/
import Derived.Test.YtehdclfmkeemgaaRef5
import Derived.Deep.CutBlock
import Derived.Deep.DeepCutAuto
namespace Go.Proofs.Ytehdclfmkeemgaa
open Go.RowKit
attribute [local irreducible] wpQuiet
attribute [local go_sem high] run_mxI run_mnI

theorem own_lt_ {w : World} {B e size n : Nat} {v : Value} {xs : List Value} (h : w.ownsRow B e size v n xs) : ∀ g, v.ownBlock = some g → g < w.heap.size := fun g hg => (h.lt g hg).2
theorem Holds.keepAt {w w' : World} {B : Nat} {A : Option Addr} {xs : List Value} (h : Holds w B A xs) (hk : ∀ ad, A = some ad → ad.block < B → w'.heap[ad.block]? = w.heap[ad.block]?) : Holds w' B A xs := fun hn => by
  obtain ⟨ad, e, hb, hc⟩ := h hn
  exact ⟨ad, e, hb, fun j u hu => (World.cell?_of_block (w := w) (by rw [block_add]; exact hk ad e hb)).trans (hc j u hu)⟩

section
variable {w w' : World} {M : Nat} {A : Option Addr} {c n : Nat} {L : List Ent}
theorem loose_yes {M : Int} {i : Nat} (h : Hid (Holds w w.heap.size A (ecs L))) (hn : L.length = n) (hl : n ≤ 1000) (hi : Hid (looseI L = some i)) :
    Calls Try.prog 26 #[.agg #[.int .i64 M, .slice A n c]] w fun e w' => e = .returned (.int .i64 (i : Int)) ∧ Below w.heap.size w w' := by
  have := loose_any (M := M) (c := c) h hn hl
  rw [hi.out] at this
  exact this
theorem loose_no {M : Int} (h : Hid (Holds w w.heap.size A (ecs L))) (hn : L.length = n) (hl : n ≤ 1000) (hi : Hid (looseI L = none)) :
    Calls Try.prog 26 #[.agg #[.int .i64 M, .slice A n c]] w fun e w' => e = .returned (.int .i64 (-1)) ∧ Below w.heap.size w w' := by
  have := loose_any (M := M) (c := c) h hn hl
  rw [hi.out] at this
  exact this
def RefPutPost (M : Nat) (A : Option Addr) (L : List Ent) (x : Int) (v : ByteArray) (g : Nat) (w : World) (e : Ending) (w' : World) : Prop :=
  ∃ A' c' Ao co, e = .returned (.tuple #[.agg #[.int .i64 M, .slice A' (putL M L x v g).1.length c'], .slice Ao (putL M L x v g).2.length co]) ∧ RefAt w' A' c' (putL M L x v g).1 ∧ IntsAt w' w'.heap.size Ao (putL M L x v g).2 ∧ NewAt w A A' ∧ NewAt w none Ao ∧ Below w.heap.size w w'

theorem RefAt.keepAt {B : Nat} (h : RefAt w A c L) (hs : w.heap.size ≤ w'.heap.size) (hk : ∀ k, k < w.heap.size → k ≠ B → w'.heap[k]? = w.heap[k]?) (hB : ∀ ad, A = some ad → ad.block ≠ B) : RefAt w' A c L :=
  ⟨(h.1.keepAt fun ad had hlt => hk _ hlt (hB ad had)).more hs, h.2.1, fun ad had => Nat.lt_of_lt_of_le (h.2.2 ad had) hs⟩

theorem RefAt.same (h : RefAt w A c L) (hk : w'.heap = w.heap) : RefAt w' A c L := ⟨by rw [hk]; exact h.1.keep fun k _ => by rw [hk], h.2.1, by rw [hk]; exact h.2.2⟩
/-- Where the reference's loop stands. -/
structure RRoom (w wr : World) (M : Nat) (A0 : Option Addr) (L1 : List Ent) (n : Nat) (K : List Ent) (outs : List Int) (A : Option Addr) (c : Nat) (v : Value) : Prop where
  box : Blk wr w.heap.size 29 #[.int .i64 M, .slice A K.length c]
  res : Blk wr (w.heap.size + 1) 29 #[.int .i64 0, .slice none 0 0]
  ref : RefAt wr A c K
  out : wr.ownsRow (w.heap.size + 2) 3 1 v outs.length (nums outs)
  apart : ∀ ad, A = some ad → v.ownBlock ≠ some ad.block ∧ ad.block ≠ w.heap.size ∧ ad.block ≠ w.heap.size + 1
  new : NewAt w A0 A
  sub : K.Sublist L1
  ev : evictL M n L1.length L1 = ((evictL M n K.length K).1, outs ++ (evictL M n K.length K).2)
  len : outs.length + K.length = L1.length
  below : Below w.heap.size w wr

theorem RRoom.below_ {wr w3 : World} {A0 : Option Addr} {L1 K : List Ent} {outs : List Int} {v : Value} {n : Nat} (h : RRoom w wr M A0 L1 n K outs A c v) (hb : Below wr.heap.size wr w3) : RRoom w w3 M A0 L1 n K outs A c v :=
  ⟨h.box.below hb h.box.lt, h.res.below hb h.res.lt, h.ref.below hb, own_keep h.out fun k _ hk => hb.block k hk, h.apart, h.new, h.sub, h.ev, h.len, h.below.trans (hb.mono h.below.size)⟩

set_option maxHeartbeats 1600000 in
theorem refput_any (h : Hid (RefAt w A c L)) (hn : L.length = n) (hl : n ≤ 1000) (hnd : (keysL L).Nodup) (x : Int) (v : ByteArray) (g : Nat) (hv : v.size ≤ 100000) (hM : M ≤ 65536) (ht : total L ≤ M) :
    Calls Try.prog 11 #[.agg #[.int .i64 M, .slice A n c], .int .i64 x, .string v] w (RefPutPost M A L x v g w) := by
  have HN := hid hn
  obtain ⟨w1, hw1⟩ : ∃ w1, w1 = (w.alloc (.cells #[.int .i64 M, .slice A n c] 29)).alloc (.cells #[.int .i64 0, .slice none 0 0] 29) := ⟨_, rfl⟩
  have HW := hid hw1
  have hB1 := hid (show Below w.heap.size w w1 by rw [hw1]; exact ((Below.refl _ _).alloc (Nat.le_refl _) _).alloc (by simp) _)
  have hb0 := hid (show Blk w1 w.heap.size 29 #[.int .i64 M, .slice A n c] by rw [hw1]; exact (Blk.new _ _ _).alloc _)
  have hb1 := hid (show Blk w1 (w.heap.size + 1) 29 #[.int .i64 0, .slice none 0 0] by rw [hw1]; have := Blk.new (w.alloc (.cells #[.int .i64 M, .slice A n c] 29)) 29 #[.int .i64 0, .slice none 0 0]; simpa using this)
  have hr1 := hid (h.out.below hB1.out)
  have hz1 := hid (show w1.heap.size = w.heap.size + 2 by rw [hw1]; simp)
  have hF := hid (refdrop_any (M := M) (c := c) hr1 hn hl hnd x)
  clear hw1 hn
  go_enter Try.func11, Try.ntmps11
  go_wp2_with fail
  rw [← HW.out]
  refine hF.out.mono ?_
  rintro e w2 ⟨A2, c2, rfl, hr2, hA2, hb2⟩
  have b0 := hid (hb0.out.below hb2 hb0.out.lt)
  have b1 := hid (hb1.out.below hb2 hb1.out.lt)
  have d0 : w2.cell? ⟨w.heap.size, 0, none⟩ = some (.int .i64 M) := by rw [b0.out.cell]; rfl
  have d1 : w2.cell? ⟨w.heap.size, 1, none⟩ = some (.slice A n c) := by rw [b0.out.cell]; rfl
  have f0 := b0.out.frozen 0
  have f1 := b0.out.frozen 1
  have HA2 := hid hA2
  have HR2 := hid hr2
  have HB2 := hid (hB1.out.trans (hb2.mono hB1.out.size))
  have hz2 := hid (show w.heap.size + 2 ≤ w2.heap.size by have := hz1.out; have := hb2.size; omega)
  obtain ⟨L1, hL1⟩ : ∃ L1, L1 = goneL L x := ⟨_, rfl⟩
  have HE1 := hid hL1
  have hsub1 := goneL_sub L x
  have htot1 : total L1 ≤ M := by rw [hL1]; exact Nat.le_trans (total_sub hsub1) ht
  have hlen1 : L1.length ≤ 1000 := by rw [hL1]; have := hsub1.length_le; have := HN.out; omega
  rw [← hL1] at HR2 ⊢
  clear hA2 hr2 hb2 hL1 hsub1 hF hnd
  have hAne : ∀ ad, A2 = some ad → ad.block ≠ w.heap.size ∧ ad.block ≠ w.heap.size + 1 := fun ad had => by
    have := hz1.out
    rcases HA2.out ad had with ⟨a, ha, hg⟩ | hge
    · have := h.out.2.2 a ha
      omega
    · omega
  have hAN : NewAt w A A2 := fun ad had => by
    rcases HA2.out ad had with h1 | h1
    · exact .inl h1
    · have := hz1.out
      exact .inr (by omega)
  have hset := fun (k : Nat) (hk : k ≠ w.heap.size) => (Below.heap_setCell (w2.setCell ⟨w.heap.size, 0, none⟩ (.int .i64 M)) ⟨w.heap.size, 1, none⟩ (.slice A2 L1.length c2) k hk).trans (Below.heap_setCell w2 ⟨w.heap.size, 0, none⟩ (.int .i64 M) k hk)
  have hR3 : RRoom w ((w2.setCell ⟨w.heap.size, 0, none⟩ (.int .i64 M)).setCell ⟨w.heap.size, 1, none⟩ (.slice A2 L1.length c2)) M A L1 v.size L1 [] A2 c2 (.slice none 0 0) :=
    ⟨(b0.out.set_ 0 (.int .i64 M)).set_ 1 (.slice A2 L1.length c2), (hset _ (by simp)).trans b1.out, HR2.out.keepAt (B := w.heap.size) (by simp [World.setCell]) (fun k _ hk => hset k hk) (fun ad had => (hAne ad had).1), World.ownsRow_nil _ _ _ _, fun ad had => ⟨by simp [Value.ownBlock], hAne ad had⟩, hAN, List.Sublist.refl _, by simp, by simp, (HB2.out.setCell (Nat.le_refl _) _).setCell (Nat.le_refl _) _⟩
  have HR3 := hid hR3
  clear hAne hAN hset hR3
  by_cases hbig : M < v.size
  · have f2 := b1.out.frozen 0
    have f3 := b1.out.frozen 1
    have d2 : w2.cell? ⟨w.heap.size + 1, 0, none⟩ = some (.int .i64 0) := by rw [b1.out.cell]; rfl
    have d3 : w2.cell? ⟨w.heap.size + 1, 1, none⟩ = some (.slice none 0 0) := by rw [b1.out.cell]; rfl
    have hsz := hid b1.out.lt
    go_wp2_with fail
    have hp : putL M L x v g = (L1, []) := by unfold putL; rw [if_pos hbig, HE1.out]
    refine bodyPost_ret (v := .tuple #[.agg #[.int .i64 M, .slice A2 L1.length c2], .slice none 0 0]) ?_ rfl ⟨A2, c2, none, 0, by rw [hp]; rfl, ?_, by rw [hp]; exact fun h => absurd h (by simp), HR3.out.new, NewAt.refl w none, ?_⟩
    · simp [results, Try.results11, go_sem, *]
    · rw [hp]
      exact (HR3.out.ref.keepAt (B := w.heap.size + 1) (by simp [World.setCell]) (fun k _ hk => Below.heap_setCell _ _ _ _ hk) (fun ad had => (HR3.out.apart ad had).2.2)).keepAt (B := w.heap.size + 1) (by simp [World.setCell]) (fun k _ hk => Below.heap_setCell _ _ _ _ hk) (fun ad had => (HR3.out.apart ad had).2.2)
    · exact (HR3.out.below.setCell (p := ⟨w.heap.size + 1, 0, none⟩) (by simp) _).setCell (p := ⟨w.heap.size + 1, 1, none⟩) (by simp) _
  · go_wp2_with fail
    obtain ⟨w3, hw3⟩ : ∃ w3, w3 = (w2.setCell ⟨w.heap.size, 0, none⟩ (.int .i64 M)).setCell ⟨w.heap.size, 1, none⟩ (.slice A2 L1.length c2) := ⟨_, rfl⟩
    rw [← hw3] at HR3 ⊢
    clear hw3 d0 d1 f0 f1
    go_loopw [8] (fun v8 wr => ∃ (K : List Ent) (outs : List Int) (A' : Option Addr) (c' : Nat), Hid (RRoom w wr M A L1 v.size K outs A' c' v8)) (fun v8 _ => L1.length - slen v8)
    case atStart => exact ⟨L1, [], A2, c2, HR3⟩
    case round =>
      obtain ⟨K, outs, A3, c3, hR⟩ := hrel
      obtain ⟨Ao, co, hu⟩ := own_form hR.out.out
      subst hu
      have htK : total K ≤ M := Nat.le_trans (total_sub hR.out.sub) htot1
      have hKl : K.length ≤ 1000 := Nat.le_trans hR.out.sub.length_le hlen1
      have e0 : wr.cell? ⟨w.heap.size, 0, none⟩ = some (.int .i64 M) := by rw [hR.out.box.cell]; rfl
      have e1 : wr.cell? ⟨w.heap.size, 1, none⟩ = some (.slice A3 K.length c3) := by rw [hR.out.box.cell]; rfl
      have hsub : IntKind.i64.wrap ((M : Int) - (v.size : Int)) = (M : Int) - (v.size : Int) := by rw [IntKind.wrap_i64]; omega
      by_cases hroom : total K + v.size ≤ M
      · have ht1 : decide ((M : Int) - (v.size : Int) < (total K : Int)) = false := decide_eq_false (by omega)
        go_wp2_with fail
        go_region_with (go_at_call 23; refine (sum_any (hid (RefAt.same hR.out.ref (by rfl)).1) rfl hKl (by omega)).mono ?_; rintro e w8 ⟨rfl, hb⟩; have R9 := hid ((hR.out.below_ (below_drewN (Below.refl _ _) _)).below_ hb); have e2 : w8.cell? ⟨w.heap.size, 0, none⟩ = some (.int .i64 M) := (by rw [R9.out.box.cell]; rfl); have e3 : w8.cell? ⟨w.heap.size, 1, none⟩ = some (.slice A3 K.length c3) := (by rw [R9.out.box.cell]; rfl); clear hb)
        all_goals go_wp2_with fail
        all_goals
          have ht2 : decide ((total K : Int) ≤ (M : Int) - (v.size : Int)) = true := decide_eq_true (by omega)
          clear ht1 e0 e1
          go_region_held3 (fun w' => w'.cell? ⟨w.heap.size, 0, none⟩ = some (.int .i64 M) ∧ w'.cell? ⟨w.heap.size, 1, none⟩ = some (.slice A3 K.length c3)) (first | exact ⟨e2, e3⟩ | exact ⟨e4, e5⟩) (first | (go_at_call 23; refine (sum_any (hid (RefAt.same R9.out.ref (by rfl)).1) rfl hKl (by omega)).mono ?_; rintro e w8 ⟨rfl, hb⟩; have R10 := hid ((R9.out.below_ (below_drewN (Below.refl _ _) _)).below_ hb); have e4 : w8.cell? ⟨w.heap.size, 0, none⟩ = some (.int .i64 M) := (by rw [R10.out.box.cell]; rfl); have e5 : w8.cell? ⟨w.heap.size, 1, none⟩ = some (.slice A3 K.length c3) := (by rw [R10.out.box.cell]; rfl); clear hb))
          have hs1 := hid (show (0 + K.length) * 32 ≤ 140737488355328 by omega)
          have hs2 := hid (show (K.length + 1) * 32 ≤ 140737488355328 by omega)
          clear e2 e3 ht2
          go_wp2_with (at_builtin; refine wpList_appS _ rfl (.const (.slice none 0 0)) (.tmp 58) 27 59 (.agg #[.int .i64 0, .string ⟨#[]⟩, .bool false]) 3 32 rfl Try.underlying27 info59 rfl (by decide) (by decide) w8.heap.size (.slice none 0 0) 0 [] rfl (World.ownsRow_nil _ _ _ _) w8.heap.size A3 c3 K.length (ecs K) rfl (ecs_length K) R10.out.ref.1 (ecs_one K) hs1.out (Nat.le_refl _) ?_)
          intro v11 w11 hown hg _
          have hbx : Below w8.heap.size w8 w11 := (Below.refl _ _).grown hg (Nat.le_refl _) (by simp [Value.ownBlock])
          have R11 := hid (R10.out.below_ hbx)
          have HO11 : Hid (w11.ownsRow w8.heap.size 59 3 v11 K.length (ecs K)) := hid (by simpa using hown)
          have hg11 := hid hg
          have hz11 := hid hbx.size
          have g0 : w11.cell? ⟨w.heap.size, 0, none⟩ = some (.int .i64 M) := by rw [R11.out.box.cell]; rfl
          have g1 : w11.cell? ⟨w.heap.size, 1, none⟩ = some (.slice A3 K.length c3) := by rw [R11.out.box.cell]; rfl
          clear hown hg hbx e4 e5
          go_wp2_with (at_builtin; refine wpList_appS _ rfl (.tmp 59) (.tmp 63) 27 59 (.agg #[.int .i64 0, .string ⟨#[]⟩, .bool false]) 3 32 rfl Try.underlying27 info59 rfl (by decide) (by decide) w8.heap.size v11 K.length (ecs K) rfl (HO11.out.alloc _) (w11.heap.size + 1) (some ⟨w11.heap.size, 0, none⟩) 1 1 [.int .i64 x, .string v, .bool false] rfl rfl ?hold ?one hs2.out ?base ?_)
          case hold => exact Holds.of_blk (Blk.new w11 59 #[.int .i64 x, .string v, .bool false]) 0 3 (by simp)
          case one => intro u hu; simp at hu; rcases hu with rfl | rfl | rfl <;> rfl
          case base => have := hz11.out; simp; omega
          intro v12 w12 hown hg _
          have hbx2 : Below w8.heap.size w8 w12 := (((Below.refl _ _).grown hg11.out (Nat.le_refl _) (by simp [Value.ownBlock])).alloc hz11.out _).grown hg (by have := hz11.out; simp; omega) (own_ge HO11.out)
          have R12 := hid (R10.out.below_ hbx2)
          obtain ⟨A12, c12, hv12⟩ := own_form hown
          subst hv12
          have HO12 := hid hown
          have k0 : w12.cell? ⟨w.heap.size, 0, none⟩ = some (.int .i64 M) := by rw [R12.out.box.cell]; rfl
          have k1 : w12.cell? ⟨w.heap.size, 1, none⟩ = some (.slice A3 K.length c3) := by rw [R12.out.box.cell]; rfl
          have k2 : w12.cell? ⟨w.heap.size + 1, 0, none⟩ = some (.int .i64 0) := by rw [R12.out.res.cell]; rfl
          have k3 : w12.cell? ⟨w.heap.size + 1, 1, none⟩ = some (.slice none 0 0) := by rw [R12.out.res.cell]; rfl
          have f0 := R12.out.box.frozen 1
          have f1 := R12.out.res.frozen 0
          have f2 := R12.out.res.frozen 1
          have hsz := hid R12.out.res.lt
          have hz8 := hid (show w.heap.size + 1 < w8.heap.size from R10.out.res.lt)
          clear hown hg hbx2 g0 g1
          go_wp2_with fail
          have hev := hR.out.ev
          rw [evictL_room hroom] at hev
          simp only [List.append_nil] at hev
          have hp : putL M L x v g = (K ++ [⟨x, v, false, g⟩], outs) := by
            unfold putL
            rw [if_neg hbig, ← HE1.out, hev, if_neg (show ¬ M < total K + v.size by omega)]
          have hlen : (K ++ [(⟨x, v, false, g⟩ : Ent)]).length = K.length + 1 := by simp
          have hown8 := HO12.out
          rw [show ecs K ++ [Value.int .i64 x, .string v, .bool false] = ecs (K ++ [(⟨x, v, false, g⟩ : Ent)]) by rw [ecs_append]; rfl, ← hlen] at hown8
          have hkeep : ∀ q, q ≠ w.heap.size → q ≠ w.heap.size + 1 → ∀ u1 u2 u3 : Value, (((w12.setCell ⟨w.heap.size, 1, none⟩ u1).setCell ⟨w.heap.size + 1, 0, none⟩ u2).setCell ⟨w.heap.size + 1, 1, none⟩ u3).heap[q]? = w12.heap[q]? := fun q h1 h2 u1 u2 u3 => by
            rw [Below.heap_setCell _ _ _ _ (show q ≠ w.heap.size + 1 from h2), Below.heap_setCell _ _ _ _ (show q ≠ w.heap.size + 1 from h2), Below.heap_setCell _ _ _ _ (show q ≠ w.heap.size from h1)]
          refine bodyPost_ret (v := .tuple #[.agg #[.int .i64 M, .slice A12 (K.length + 1) c12], .slice Ao outs.length co]) ?_ rfl ⟨A12, c12, Ao, co, ?_, ?_, ?_, NewAt.of_own hown8 (by have := hz8.out; omega), fun ad had => .inr (by have := own_ge R12.out.out ad.block (by rw [had]; rfl); omega), ?_⟩
          · simp [results, Try.results11, go_sem, *]
          · rw [hp, hlen]
          · rw [hp]
            exact RefAt.of_own (base := w8.heap.size) (own_ifS hown8 fun q hq => hkeep q (by have := own_ge hown8 q hq; have := hz8.out; omega) (by have := own_ge hown8 q hq; have := hz8.out; omega) _ _ _)
          · rw [hp]
            exact IntsAt.of_holds (Holds.of_own (own_ifS R12.out.out fun q hq => hkeep q (by have := own_ge R12.out.out q hq; omega) (by have := own_ge R12.out.out q hq; omega) _ _ _))
          · exact ((R12.out.below.setCell (p := ⟨w.heap.size, 1, none⟩) (by simp) _).setCell (p := ⟨w.heap.size + 1, 0, none⟩) (by simp) _).setCell (p := ⟨w.heap.size + 1, 1, none⟩) (by simp) _
      · have ht1 : decide ((M : Int) - (v.size : Int) < (total K : Int)) = true := decide_eq_true (by omega)
        cases hlo : looseI K with
        | none =>
          have HLO := hid hlo
          clear hlo
          go_wp2_with fail
          go_region_held3 (fun w' => w'.cell? ⟨w.heap.size, 0, none⟩ = some (.int .i64 M) ∧ w'.cell? ⟨w.heap.size, 1, none⟩ = some (.slice A3 K.length c3)) (first | exact ⟨e0, e1⟩ | exact ⟨e2, e3⟩ | exact ⟨e4, e5⟩) (first | (go_at_call 23; refine (sum_any (hid (RefAt.same hR.out.ref (by rfl)).1) rfl hKl (by omega)).mono ?_; rintro e w8 ⟨rfl, hb⟩; have R9 := hid ((hR.out.below_ (below_drewN (Below.refl _ _) _)).below_ hb); have e2 : w8.cell? ⟨w.heap.size, 0, none⟩ = some (.int .i64 M) := (by rw [R9.out.box.cell]; rfl); have e3 : w8.cell? ⟨w.heap.size, 1, none⟩ = some (.slice A3 K.length c3) := (by rw [R9.out.box.cell]; rfl); clear hb) | (go_at_call 26; refine (loose_no (hid (RefAt.same R9.out.ref (by rfl)).1) rfl hKl HLO).mono ?_; rintro e w9 ⟨rfl, hb⟩; have R10 := hid (R9.out.below_ hb); have e4 : w9.cell? ⟨w.heap.size, 0, none⟩ = some (.int .i64 M) := (by rw [R10.out.box.cell]; rfl); have e5 : w9.cell? ⟨w.heap.size, 1, none⟩ = some (.slice A3 K.length c3) := (by rw [R10.out.box.cell]; rfl); clear hb))
          go_wp2_with fail
          have ht2 : decide ((total K : Int) ≤ (M : Int) - (v.size : Int)) = false := decide_eq_false (by omega)
          clear ht1 e0 e1 e2 e3
          go_region_held3 (fun w' => w'.cell? ⟨w.heap.size, 0, none⟩ = some (.int .i64 M) ∧ w'.cell? ⟨w.heap.size, 1, none⟩ = some (.slice A3 K.length c3)) (first | exact ⟨e4, e5⟩ | exact ⟨e6, e7⟩) (first | (go_at_call 23; refine (sum_any (hid (RefAt.same R10.out.ref (by rfl)).1) rfl hKl (by omega)).mono ?_; rintro e w10 ⟨rfl, hb⟩; have R11 := hid ((R10.out.below_ (below_drewN (Below.refl _ _) _)).below_ hb); have e6 : w10.cell? ⟨w.heap.size, 0, none⟩ = some (.int .i64 M) := (by rw [R11.out.box.cell]; rfl); have e7 : w10.cell? ⟨w.heap.size, 1, none⟩ = some (.slice A3 K.length c3) := (by rw [R11.out.box.cell]; rfl); clear hb))
          have k2 : w10.cell? ⟨w.heap.size + 1, 0, none⟩ = some (.int .i64 0) := by rw [R11.out.res.cell]; rfl
          have k3 : w10.cell? ⟨w.heap.size + 1, 1, none⟩ = some (.slice none 0 0) := by rw [R11.out.res.cell]; rfl
          have f1 := R11.out.res.frozen 0
          have f2 := R11.out.res.frozen 1
          have hsz := hid R11.out.res.lt
          clear e4 e5
          go_wp2_with fail
          have hev := hR.out.ev
          rw [evictL_stop HLO.out] at hev
          simp only [List.append_nil] at hev
          have hp : putL M L x v g = (K, outs) := by
            unfold putL
            rw [if_neg hbig, ← HE1.out, hev, if_pos (show M < total K + v.size by omega)]
          have hset : ∀ (u1 u2 : Value) (k : Nat), k ≠ w.heap.size + 1 → ((w10.setCell ⟨w.heap.size + 1, 0, none⟩ u1).setCell ⟨w.heap.size + 1, 1, none⟩ u2).heap[k]? = w10.heap[k]? := fun u1 u2 k hk => (Below.heap_setCell _ _ _ _ hk).trans (Below.heap_setCell _ _ _ _ hk)
          refine bodyPost_ret (v := .tuple #[.agg #[.int .i64 M, .slice A3 K.length c3], .slice Ao outs.length co]) ?_ rfl ⟨A3, c3, Ao, co, by rw [hp], ?_, ?_, R11.out.new, fun ad had => .inr (by have := own_ge R11.out.out ad.block (by rw [had]; rfl); omega), ?_⟩
          · simp [results, Try.results11, go_sem, *]
          · rw [hp]
            exact R11.out.ref.keepAt (B := w.heap.size + 1) (by simp [World.setCell]) (fun k _ hk => hset _ _ k hk) (fun ad had => (R11.out.apart ad had).2.2)
          · rw [hp]
            exact IntsAt.of_holds (Holds.of_own (own_ifS R11.out.out fun q hq => hset _ _ q (by have := own_ge R11.out.out q hq; omega)))
          · exact (R11.out.below.setCell (p := ⟨w.heap.size + 1, 0, none⟩) (by simp) _).setCell (p := ⟨w.heap.size + 1, 1, none⟩) (by simp) _
        | some i =>
          have HLO := hid hlo
          clear hlo
          go_wp2_with fail
          go_region_held3 (fun w' => w'.cell? ⟨w.heap.size, 0, none⟩ = some (.int .i64 M) ∧ w'.cell? ⟨w.heap.size, 1, none⟩ = some (.slice A3 K.length c3)) (first | exact ⟨e0, e1⟩ | exact ⟨e2, e3⟩ | exact ⟨e4, e5⟩) (first | (go_at_call 23; refine (sum_any (hid (RefAt.same hR.out.ref (by rfl)).1) rfl hKl (by omega)).mono ?_; rintro e w8 ⟨rfl, hb⟩; have R9 := hid ((hR.out.below_ (below_drewN (Below.refl _ _) _)).below_ hb); have e2 : w8.cell? ⟨w.heap.size, 0, none⟩ = some (.int .i64 M) := (by rw [R9.out.box.cell]; rfl); have e3 : w8.cell? ⟨w.heap.size, 1, none⟩ = some (.slice A3 K.length c3) := (by rw [R9.out.box.cell]; rfl); clear hb) | (go_at_call 26; refine (loose_yes (hid (RefAt.same R9.out.ref (by rfl)).1) rfl hKl HLO).mono ?_; rintro e w9 ⟨rfl, hb⟩; have R10 := hid (R9.out.below_ hb); have e4 : w9.cell? ⟨w.heap.size, 0, none⟩ = some (.int .i64 M) := (by rw [R10.out.box.cell]; rfl); have e5 : w9.cell? ⟨w.heap.size, 1, none⟩ = some (.slice A3 K.length c3) := (by rw [R10.out.box.cell]; rfl); clear hb))
          go_wp2_with fail
          clear e0 e1 e2 e3 ht1
          refine (loose_yes (hid R10.out.ref.1) rfl hKl HLO).mono ?_
          rintro r w11 ⟨rfl, hb⟩
          have R11 := hid (R10.out.below_ hb)
          obtain ⟨e, he, _, _⟩ := loose_some HLO.out
          have hil : i < K.length := (List.getElem?_eq_some_iff.1 he).1
          obtain ⟨ad, hA3, hab, q0, _, _⟩ := ent_at R11.out.ref.1 he
          have HE := hid he
          subst hA3
          have g1 : w11.cell? ⟨w.heap.size, 1, none⟩ = some (.slice (some ad) K.length c3) := by rw [R11.out.box.cell]; rfl
          have hsz := hid (show ((nums outs).length + [Value.int .i64 e.key].length) * 8 ≤ 140737488355328 by
            have := R11.out.len
            rw [nums_length]; simp; omega)
          have hnl := hid (nums_length outs)
          clear hb e4 e5 he hab
          go_wp2_with (at_builtin; refine wpList_app _ rfl (.tmp 37) (.tmp 44) 33 3 (.int .i64 0) 8 rfl Try.underlying33 info3 rfl (by decide) (w.heap.size + 2) (.slice Ao outs.length co) (nums outs) rfl ?own (w11.alloc (.cells #[.int .i64 e.key] 3)).heap.size (some ⟨w11.heap.size, 0, none⟩) 1 1 [.int .i64 e.key] rfl rfl ?hold ?one hsz.out ?base ?_)
          case own => rw [hnl.out]; exact R11.out.out.alloc _
          case hold => exact Holds.of_blk (Blk.new w11 3 #[.int .i64 e.key]) 0 1 (by simp)
          case one =>
            intro u hu
            simp only [List.mem_singleton] at hu
            subst hu
            rfl
          case base => have := R11.out.res.lt; simp; omega
          intro v12 w12 hown hg hat
          have hz11 := R11.out.res.lt
          have hk12 : ∀ k, k < w11.heap.size → some k ≠ (Value.slice Ao outs.length co).ownBlock → w12.heap[k]? = w11.heap[k]? := fun k hk hne => (hg.block k (by simp; omega) hne).trans (Below.heap_alloc _ _ _ hk)
          have hs12 := hg.size
          simp at hs12
          have hno : ∀ q, (Value.slice Ao outs.length co).ownBlock = some q → w.heap.size + 2 ≤ q := own_ge R11.out.out
          have b0' := hid (show Blk w12 w.heap.size 29 #[.int .i64 M, .slice (some ad) K.length c3] from (hk12 _ R11.out.box.lt (fun e' => by have := hno _ e'.symm; omega)).trans R11.out.box)
          have b1' := hid (show Blk w12 (w.heap.size + 1) 29 #[.int .i64 0, .slice none 0 0] from (hk12 _ R11.out.res.lt (fun e' => by have := hno _ e'.symm; omega)).trans R11.out.res)
          have r12 : Hid (RefAt w12 (some ad) c3 K) := hid ⟨(R11.out.ref.1.keepAt fun ad' had hlt => hk12 _ hlt (fun e' => (R11.out.apart ad' had).1 e'.symm)).more (by omega), R11.out.ref.2.1, fun ad' had => by have := R11.out.ref.2.2 ad' had; omega⟩
          have HB12 := hid ((R11.out.below.alloc R11.out.below.size _).grown hg (by have := R11.out.below.size; simp; omega) (fun q hq => by have := hno q hq; omega))
          have hO12 : Hid (w12.ownsRow (w.heap.size + 2) 3 1 v12 (outs ++ [e.key]).length (nums (outs ++ [e.key]))) := hid (by
            rw [show nums (outs ++ [e.key]) = nums outs ++ [Value.int .i64 e.key] by simp [nums], List.length_append]
            have := hown
            rw [hnl.out] at this
            exact this)
          have hl12 := hid (own_lt_ hO12.out)
          have d0 : w12.cell? ⟨w.heap.size, 0, none⟩ = some (.int .i64 M) := by rw [b0'.out.cell]; rfl
          have d1 : w12.cell? ⟨w.heap.size, 1, none⟩ = some (.slice (some ad) K.length c3) := by rw [b0'.out.cell]; rfl
          clear hown hg hat hk12 hno g1 q0
          go_wp2_with fail
          refine (refwithout_any (i := i) (hid r12.out.1) rfl r12.out.2.1 hKl hil).mono ?_
          rintro r w13 ⟨A13, c13, rfl, hown, hb⟩
          have b0'' := hid (b0'.out.below hb b0'.out.lt)
          have b1'' := hid (b1'.out.below hb b1'.out.lt)
          have HO13 := hid hown
          have hO13 := hid (own_keep (w' := w13) hO12.out fun q _ hq => hb.block q hq)
          have HB13 := hid (HB12.out.trans (hb.mono HB12.out.size))
          have e0 : w13.cell? ⟨w.heap.size, 0, none⟩ = some (.int .i64 M) := by rw [b0''.out.cell]; rfl
          have e1 : w13.cell? ⟨w.heap.size, 1, none⟩ = some (.slice (some ad) K.length c3) := by rw [b0''.out.cell]; rfl
          have f0 := b0''.out.frozen 0
          have f1 := b0''.out.frozen 1
          clear hown hb d0 d1
          go_wp2_with fail
          go_roundw
          case rel =>
            have hset : ∀ (u1 u2 : Value) (k : Nat), k ≠ w.heap.size → ((w13.setCell ⟨w.heap.size, 0, none⟩ u1).setCell ⟨w.heap.size, 1, none⟩ u2).heap[k]? = w13.heap[k]? := fun u1 u2 k hk => (Below.heap_setCell _ _ _ _ hk).trans (Below.heap_setCell _ _ _ _ hk)
            refine ⟨K.eraseIdx i, outs ++ [e.key], A13, c13, hid ⟨(b0''.out.set_ 0 (.int .i64 M)).set_ 1 (.slice A13 (K.eraseIdx i).length c13), (hset _ _ _ (by simp)).trans b1''.out, RefAt.of_own (own_ifS HO13.out fun q hq => hset _ _ q (by have := own_ge HO13.out q hq; omega)), own_ifS hO13.out fun q hq => hset _ _ q (by have := own_ge hO13.out q hq; omega), fun ad' had => ?_, NewAt.of_own HO13.out (by omega), (List.eraseIdx_sublist _ _).trans hR.out.sub, ?_, ?_, (HB13.out.setCell (Nat.le_refl _) _).setCell (Nat.le_refl _) _⟩⟩
            · have h1 := own_ge HO13.out ad'.block (by rw [had]; rfl)
              exact ⟨fun e' => by have := hl12.out _ e'; omega, by omega, by omega⟩
            · rw [hR.out.ev, evictL_step (by omega) HLO.out HE.out]
              simp
            · have := hR.out.len
              rw [List.length_eraseIdx_of_lt hil]; simp; omega
          case measure =>
            have h1 := hR.out.len
            have h2 := slen_own hO12.out
            simp [slen] at h2 ⊢
            rw [h2]
            omega
end
end Go.Proofs.Ytehdclfmkeemgaa
