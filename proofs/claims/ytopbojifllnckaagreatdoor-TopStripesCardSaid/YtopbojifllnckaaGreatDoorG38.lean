/- reader: ask, missing. reader: missing. -/
import Derived.Test.YtopbojifllnckaaGreatDoorHVa
namespace Go.Proofs.YtopbojifllnckaaGreatDoor
open Go.RowKit
attribute [local irreducible] wpQuiet
/-- The same, its blocks below lim. -/
def StrL (base lim : Nat) (w : World) (p a j ln long : Nat) (F : Nat → ByteArray) (A C : Nat → Bool) : Prop :=
  ∃ (st : Int) (q c fr ak cm : Nat), Blk w p 130 #[.pointer (some ⟨a, 0, none⟩), .int .i64 j, .int .i64 st, .int .i64 3, .int .i64 1, .int .i64 ln, .slice (some ⟨q, 0, none⟩) 4 c, .int .i64 long, .slice (some ⟨fr, 0, none⟩) 4 4, .slice (some ⟨ak, 0, none⟩) 4 4, .slice (some ⟨cm, 0, none⟩) 4 4] ∧
    Blk w fr 9 #[.string (F 0), .string (F 1), .string (F 2), .string (F 3)] ∧ Blk w ak 4 #[.bool (A 0), .bool (A 1), .bool (A 2), .bool (A 3)] ∧ Blk w cm 4 #[.bool (C 0), .bool (C 1), .bool (C 2), .bool (C 3)] ∧
    base ≤ p ∧ (base ≤ fr ∧ fr < lim) ∧ (base ≤ ak ∧ ak < lim) ∧ (base ≤ cm ∧ cm < lim) ∧ ak ≠ cm
theorem StrAt.low {base p a j ln long : Nat} {w : World} {F : Nat → ByteArray} {A C : Nat → Bool} (h : StrAt base w p a j ln long F A C) : StrL base w.heap.size w p a j ln long F A C := by
  obtain ⟨st, q, c, fr, ak, cm, h1, h2, h3, h4, h5, h6, h7, h8, h9⟩ := h
  exact ⟨st, q, c, fr, ak, cm, h1, h2, h3, h4, h5, ⟨h6, h2.lt⟩, ⟨h7, h3.lt⟩, ⟨h8, h4.lt⟩, h9⟩
theorem upd4s (F : Nat → ByteArray) (i : Nat) (hi : i < 4) (s : ByteArray) : (#[Value.string (F 0), .string (F 1), .string (F 2), .string (F 3)]).setIfInBounds i (.string s) = #[.string (upd F i s 0), .string (upd F i s 1), .string (upd F i s 2), .string (upd F i s 3)] := by
  rcases (show i = 0 ∨ i = 1 ∨ i = 2 ∨ i = 3 by omega) with rfl | rfl | rfl | rfl <;> rfl
theorem upd4b (F : Nat → Bool) (i : Nat) (hi : i < 4) (s : Bool) : (#[Value.bool (F 0), .bool (F 1), .bool (F 2), .bool (F 3)]).setIfInBounds i (.bool s) = #[.bool (upd F i s 0), .bool (upd F i s 1), .bool (upd F i s 2), .bool (upd F i s 3)] := by
  rcases (show i = 0 ∨ i = 1 ∨ i = 2 ∨ i = 3 by omega) with rfl | rfl | rfl | rfl <;> rfl
theorem four_at {g : Nat} {t : TypeId} {w : World} (f : Nat → Value) (h : Blk w g t #[f 0, f 1, f 2, f 3]) {i : Nat} (hi : i < 4) : w.cell? ⟨g, i, none⟩ = some (f i) := by
  rcases (show i = 0 ∨ i = 1 ∨ i = 2 ∨ i = 3 by omega) with rfl | rfl | rfl | rfl
  · exact (h.cell 0).trans rfl
  · exact (h.cell 1).trans rfl
  · exact (h.cell 2).trans rfl
  · exact (h.cell 3).trans rfl
/-- Did a fragment come? -/
def cameB (r : ByteArray × Nat) (long : Nat) : Bool := decide (r.2 = 0) && decide (r.1.size = long)
theorem frag_err (x : X) (t : SS) (j i : Nat) : (fragX x t j i).2 = 0 ∨ (fragX x t j i).2 = 7 ∨ (fragX x t j i).2 = 8 := by
  unfold fragX srvGet
  split
  · exact .inr (.inr rfl)
  · cases look (x.C (onN t j i)) j i with
    | some b => exact .inl rfl
    | none => exact .inr (.inl rfl)
section
variable {B : Nat} {T : Nat → Nat} {w w' : World} {x : X}
theorem Blk.drew_ {g : Nat} {t : TypeId} {cs : Array Value} (h : Blk w g t cs) : Blk w.drew g t cs := h
theorem farc {w' : World} {z i : Nat} {p : Addr} {v : Value} (hne : p.block ≠ z) (y : Value) (h : w'.cell? p = some v) : (w'.setCell ⟨z, i, none⟩ y).cell? p = some v := (World.cell?_of_block (Below.heap_setCell _ ⟨z, i, none⟩ y p.block hne)).trans h
set_option maxRecDepth 100000 in
set_option maxHeartbeats 3200000 in
theorem ask_ok (h : Arr B T w x) {j : Nat} {t : SS} (hj : x.L[j]? = some t) (ho : OkS t) (hj4 : j < 4096) {base lim p ln long : Nat} {F : Nat → ByteArray} {A C : Nat → Bool} (hr : StrL base lim w p x.a j ln long F A C) {i : Nat} (hi : i < 4) (hA : A i = false) :
    Calls Tryz.prog 127 #[.pointer (some ⟨p, 0, none⟩), .int .i64 i] w fun e w' => e = .returned (.bool (cameB (fragX x t j i) long)) ∧ StrL base lim w' p x.a j ln long (upd F i (fragX x t j i).1) (upd A i true) (upd C i (cameB (fragX x t j i) long)) ∧ Only (fun k => base ≤ k ∧ k < lim) w w' := by
  have hc0 := aFragment h hj ho hj4 hi
  obtain ⟨s, hs⟩ : ∃ s, s = (fragX x t j i).1 := ⟨_, rfl⟩
  obtain ⟨er, her⟩ : ∃ er, er = (fragX x t j i).2 := ⟨_, rfl⟩
  have hcm : cameB (fragX x t j i) long = (decide (er = 0) && decide (s.size = long)) := by rw [hs, her]; rfl
  have he3 : Hid (er = 0 ∨ er = 7 ∨ er = 8) := by rw [her]; exact frag_err x t j i
  obtain ⟨cam, hcam⟩ : ∃ cam, cam = cameB (fragX x t j i) long := ⟨_, rfl⟩
  rw [← hcam]
  rw [hcm] at hcam
  have HCAM := hid hcam
  clear hcam
  rw [← hs, ← her] at hc0
  rw [← hs]
  obtain ⟨a, ha⟩ : ∃ a, a = x.a := ⟨_, rfl⟩
  rw [← ha] at hc0 hr ⊢
  obtain ⟨st, q, c, fr, ak, cm, h1, h2, h3, h4, h5, h6, h7, h8, h9⟩ := hr
  have p0 : w.cell? ⟨p, 0, none⟩ = some (.pointer (some ⟨a, 0, none⟩)) := (h1.cell 0).trans rfl
  have p1 : w.cell? ⟨p, 1, none⟩ = some (.int .i64 j) := (h1.cell 1).trans rfl
  have p9 : w.cell? ⟨p, 9, none⟩ = some (.slice (some ⟨ak, 0, none⟩) 4 4) := (h1.cell 9).trans rfl
  have ai : w.cell? ⟨ak, i, none⟩ = some (.bool false) := by have := four_at (fun k => .bool (A k)) h3 hi; rw [this, hA]
  have HC : Hid (∀ W2, W2 = w.drew → Calls Tryz.prog 118 #[.pointer (some ⟨a, 0, none⟩), .int .i64 j, .int .i64 i] W2 fun e w' => e = .returned (.tuple #[.string s, .int .i64 er]) ∧ Below W2.heap.size W2 w' ∧ (w'.cell? ⟨p, 0, none⟩ = some (.pointer (some ⟨a, 0, none⟩)) ∧ w'.cell? ⟨p, 1, none⟩ = some (.int .i64 j))) := by
    show ∀ W2, _
    intro W2 hW2
    have hb2 : Below w.heap.size w W2 := by rw [hW2]; exact (Below.refl _ _).drew
    have := aFragment (h.below hb2) hj ho hj4 hi
    rw [← hs, ← her, ← ha] at this
    refine this.mono ?_
    rintro e w' ⟨he, hb⟩
    have hk := (h1.below hb2 h1.lt).below hb (h1.below hb2 h1.lt).lt
    exact ⟨he, hb, (hk.cell 0).trans rfl, (hk.cell 1).trans rfl⟩
  have hpl := h1.lt
  have H := hid (And.intro h1 (And.intro h2 (And.intro h3 (And.intro h4 (And.intro h5 (And.intro h6 (And.intro h7 (And.intro h8 h9))))))))
  have hi0 : (0 : Int) ≤ (i : Int) := by omega
  have hi4 : (i : Int) < 4 := by omega
  clear h hj ho hs her hcm ha h1 h2 h3 h4 h5 h6 h7 h8 h9 hA hc0 hj4
  go_enter Tryz.func127, Tryz.ntmps127
  go_upto_region 2 with (fail)
  go_region_held3 (fun w' => w'.cell? ⟨p, 0, none⟩ = some (.pointer (some ⟨a, 0, none⟩)) ∧ w'.cell? ⟨p, 1, none⟩ = some (.int .i64 j)) (first | (with_reducible exact ⟨p0, p1⟩) | (with_reducible exact hS) | go_keep) ((go_at_call 118; refine (HC.out _ (by rfl)).mono ?_; rintro e w1 ⟨rfl, hb, hS⟩))
  have hb1 : Below w.heap.size w w1 := (below_drewN (Below.refl _ _) 1).trans hb
  obtain ⟨h1, h2, h3, h4, h5, h6, h7, h8, h9⟩ := H.out
  have k1 := h1.below hb1 h1.lt
  have k2 := h2.below hb1 h2.lt
  have k3 := h3.below hb1 h3.lt
  have k4 := h4.below hb1 h4.lt
  have n1 : p ≠ fr := k1.ne_ k2 (by decide)
  have n2 : p ≠ ak := k1.ne_ k3 (by decide)
  have n3 : p ≠ cm := k1.ne_ k4 (by decide)
  have n4 : fr ≠ ak := k2.ne_ k3 (by decide)
  have n4' : ak ≠ fr := Ne.symm n4
  have n5 : fr ≠ cm := k2.ne_ k4 (by decide)
  have r8 : w1.cell? ⟨p, 8, none⟩ = some (.slice (some ⟨fr, 0, none⟩) 4 4) := (k1.cell 8).trans rfl
  have r9 : w1.cell? ⟨p, 9, none⟩ = some (.slice (some ⟨ak, 0, none⟩) 4 4) := (k1.cell 9).trans rfl
  obtain ⟨u2, e2⟩ : ∃ u, w1.cell? ⟨fr, i, none⟩ = some u := ⟨_, four_at (fun k => .string (F k)) k2 hi⟩
  obtain ⟨u3, e3⟩ : ∃ u, w1.cell? ⟨ak, i, none⟩ = some u := ⟨_, four_at (fun k => .bool (A k)) k3 hi⟩
  have f2 := k2.frozen i
  have f3 := k3.frozen i
  have hp1 := k1.lt
  have HK := hid (And.intro k1 (And.intro k2 (And.intro k3 (And.intro k4 hb1))))
  have hB1 : Hid (Only (fun k => base ≤ k ∧ k < lim) w w1) := Only.of_below hb1 fun k hk _ => hk
  clear k1 k2 k3 k4 hb1 hb HC h1 h2 h3 h4 h5 h6 h7 h8 h9 p0 p1 p9 ai
  go_upto_region 3 with (fail)
  go_cut [5, 6] (fun s5 s6 wx => s5 = .string s ∧ s6 = .int .i64 er ∧ Hid (Blk wx p 130 #[.pointer (some ⟨a, 0, none⟩), .int .i64 j, .int .i64 st, .int .i64 3, .int .i64 1, .int .i64 ln, .slice (some ⟨q, 0, none⟩) 4 c, .int .i64 long, .slice (some ⟨fr, 0, none⟩) 4 4, .slice (some ⟨ak, 0, none⟩) 4 4, .slice (some ⟨cm, 0, none⟩) 4 4] ∧
      Blk wx fr 9 ((#[Value.string (F 0), .string (F 1), .string (F 2), .string (F 3)]).setIfInBounds i (.string s)) ∧ Blk wx ak 4 ((#[Value.bool (A 0), .bool (A 1), .bool (A 2), .bool (A 3)]).setIfInBounds i (.bool true)) ∧ Blk wx cm 4 #[.bool (C 0), .bool (C 1), .bool (C 2), .bool (C 3)] ∧ Only (fun k => base ≤ k ∧ k < lim) w wx))
  case first =>
    go_region_held3 (fun w' => w'.cell? ⟨p, 8, none⟩ = some (.slice (some ⟨fr, 0, none⟩) 4 4) ∧ w'.cell? ⟨p, 9, none⟩ = some (.slice (some ⟨ak, 0, none⟩) 4 4)) (first | (with_reducible exact ⟨r8, r9⟩) | exact ⟨farc n1 _ r8, farc n1 _ r9⟩ | exact ⟨farc n2 _ r8, farc n2 _ r9⟩ | exact ⟨farc n2 _ (farc n1 _ r8), farc n2 _ (farc n1 _ r9)⟩ | exact ⟨farc n1 _ (farc n2 _ r8), farc n1 _ (farc n2 _ r9)⟩ | go_keep) (fail)
    all_goals
      go_wp2_with fail
      go_meet
      obtain ⟨k1, k2, k3, k4, hb1⟩ := HK.out
      obtain ⟨-, -, -, -, -, y2, y3, -, y5⟩ := H.out
      have z1 : cm ≠ fr := Ne.symm n5
      have z2 : cm ≠ ak := Ne.symm y5
      exact ⟨rfl, rfl, ((k1.far n1 _).far n2 _).drew_, ((k2.set_ i (.string s)).far n4 _).drew_, ((k3.far n4' _).set_ i (.bool true)).drew_, ((k4.far z1 _).far z2 _).drew_, ((hB1.out.setCell (p := ⟨fr, i, none⟩) (.inl y2) _).setCell (p := ⟨ak, i, none⟩) (.inl y3) _).drew⟩
  case rest =>
    obtain ⟨rfl, rfl, HX⟩ := hcut
    obtain ⟨k1, k2, k3, k4, hb1⟩ := HX.out
    obtain ⟨-, -, -, -, y1, y2, y3, y4, y5⟩ := H.out
    rw [upd4s F i hi s] at k2
    rw [upd4b A i hi true] at k3
    have r7 : wc.cell? ⟨p, 7, none⟩ = some (.int .i64 long) := (k1.cell 7).trans rfl
    have r10 : wc.cell? ⟨p, 10, none⟩ = some (.slice (some ⟨cm, 0, none⟩) 4 4) := (k1.cell 10).trans rfl
    obtain ⟨u4, e4⟩ : ∃ u, wc.cell? ⟨cm, i, none⟩ = some u := ⟨_, four_at (fun k => .bool (C k)) k4 hi⟩
    have f4 := k4.frozen i
    have hpc := k1.lt
    have hF : Hid (StrL base lim ((wc.drewN 1).setCell ⟨cm, i, none⟩ (.bool cam)) p a j ln long (upd F i s) (upd A i true) (upd C i cam) ∧ Only (fun k => base ≤ k ∧ k < lim) w ((wc.drewN 1).setCell ⟨cm, i, none⟩ (.bool cam)) ∧ ((wc.drewN 1).setCell ⟨cm, i, none⟩ (.bool cam)).cell? ⟨p, 10, none⟩ = some (.slice (some ⟨cm, 0, none⟩) 4 4) ∧ ((wc.drewN 1).setCell ⟨cm, i, none⟩ (.bool cam)).cell? ⟨cm, i, none⟩ = some (.bool cam)) := by
      have m4 := (k4.drewN 1).set_ i (.bool cam)
      rw [upd4b C i hi] at m4
      have m1 := (k1.drewN 1).far (p := ⟨cm, i, none⟩) n3 (.bool cam)
      refine ⟨⟨st, q, c, fr, ak, cm, m1, (k2.drewN 1).far (p := ⟨cm, i, none⟩) n5 _, (k3.drewN 1).far (p := ⟨cm, i, none⟩) y5 _, m4, y1, y2, y3, y4, y5⟩, (hb1.drewN 1).setCell (p := ⟨cm, i, none⟩) (.inl y4) _, (m1.cell 10).trans rfl, ?_⟩
      have := four_at (fun k => .bool (upd C i cam k)) m4 hi
      rw [this, upd_same]
    have HP : Hid (p < ((wc.drewN 1).setCell ⟨cm, i, none⟩ (.bool cam)).heap.size) := by
      have : ((wc.drewN 1).setCell ⟨cm, i, none⟩ (.bool cam)).heap.size = wc.heap.size := by simp [World.setCell]
      show _ < _
      rw [this]
      exact hpc
    clear k1 k2 k3 k4 hb1 y1 y2 y3 y4 y5 HX HK r8 r9 e2 e3 f2 f3 hB1 H
    go_upto_region 4 with (fail)
    rcases he3.out with rfl | rfl | rfl
    · have hb : ((s.size : Int) == (long : Int)) = cam := by
        rw [HCAM.out]
        by_cases e : s.size = long
        · simp [e]
        · have : ¬ ((s.size : Int) = (long : Int)) := by omega
          simp [e, this]
      have HB := hid hb
      clear hb
      go_still_tail 17, (by kernel_rfl)
      change wpList _ _ _ _ _ (wc.drewN 1)
      rw [HB.out]
      go_upto_region 5 with (fail)
      obtain ⟨W2, hW2⟩ : ∃ W2, W2 = (wc.drewN 1).setCell ⟨cm, i, none⟩ (.bool cam) := ⟨_, rfl⟩
      obtain ⟨g1, g2, g3, g4⟩ := hF.out
      have g5 := HP.out
      rw [← hW2] at g1 g2 g3 g4 g5 ⊢
      have HG := hid (And.intro g1 g2)
      clear hW2 g1 g2 hF e4 f4 r7 r10 HP hpc
      go_wp2_with fail
      go_ret
      exact ⟨rfl, HG.out.1, HG.out.2⟩
    · have hb2 : cam = false := by rw [HCAM.out]; rfl
      subst hb2
      clear HCAM
      go_region
      obtain ⟨W2, hW2⟩ : ∃ W2, W2 = (wc.setCell ⟨cm, i, none⟩ (.bool false)).drew := ⟨_, rfl⟩
      obtain ⟨g1, g2, g3, g4⟩ := hF.out
      have g5 := HP.out
      rw [show (wc.drewN 1).setCell ⟨cm, i, none⟩ (.bool false) = W2 from hW2.symm] at g1 g2 g3 g4 g5
      rw [← hW2]
      have HG := hid (And.intro g1 g2)
      clear hW2 g1 g2 hF e4 f4 r7 r10 HP hpc
      go_wp2_with fail
      go_ret
      exact ⟨rfl, HG.out.1, HG.out.2⟩
    · have hb2 : cam = false := by rw [HCAM.out]; rfl
      subst hb2
      clear HCAM
      go_region
      obtain ⟨W2, hW2⟩ : ∃ W2, W2 = (wc.setCell ⟨cm, i, none⟩ (.bool false)).drew := ⟨_, rfl⟩
      obtain ⟨g1, g2, g3, g4⟩ := hF.out
      have g5 := HP.out
      rw [show (wc.drewN 1).setCell ⟨cm, i, none⟩ (.bool false) = W2 from hW2.symm] at g1 g2 g3 g4 g5
      rw [← hW2]
      have HG := hid (And.intro g1 g2)
      clear hW2 g1 g2 hF e4 f4 r7 r10 HP hpc
      go_wp2_with fail
      go_ret
      exact ⟨rfl, HG.out.1, HG.out.2⟩
end
end Go.Proofs.YtopbojifllnckaaGreatDoor
namespace Go.Proofs.YtopbojifllnckaaGreatDoor
open Go.RowKit
attribute [local irreducible] wpQuiet
/-- The fragments ahead of k that did not come. -/
def misL (x : X) (t : SS) (j long : Nat) : Nat → List Int
  | 0 => []
  | k + 1 => if cameB (fragX x t j k) long = true then misL x t j long k else misL x t j long k ++ [(k : Int)]
theorem misL_len (x : X) (t : SS) (j long : Nat) : ∀ k, (misL x t j long k).length ≤ k
  | 0 => Nat.le_refl _
  | k + 1 => by
    have := misL_len x t j long k
    unfold misL
    split
    · omega
    · rw [List.length_append, List.length_singleton]; omega
def asF (x : X) (t : SS) (j k i : Nat) : ByteArray := if i < k then (fragX x t j i).1 else ⟨#[]⟩
def asA (k i : Nat) : Bool := decide (i < k)
def asC (x : X) (t : SS) (j long k i : Nat) : Bool := decide (i < k) && cameB (fragX x t j i) long
theorem asF_succ (x : X) (t : SS) (j k : Nat) : upd (asF x t j k) k (fragX x t j k).1 = asF x t j (k + 1) := by
  funext i
  unfold upd asF
  by_cases h : i = k
  · subst h; simp
  · rw [if_neg h]
    by_cases h2 : i < k
    · rw [if_pos h2, if_pos (by omega)]
    · rw [if_neg h2, if_neg (by omega)]
theorem asA_succ (k : Nat) : upd (asA k) k true = asA (k + 1) := by
  funext i
  unfold upd asA
  by_cases h : i = k
  · subst h; simp
  · rw [if_neg h]
    by_cases h2 : i < k
    · simp [h2]; omega
    · simp [h2]; omega
theorem asC_succ (x : X) (t : SS) (j long k : Nat) : upd (asC x t j long k) k (cameB (fragX x t j k) long) = asC x t j long (k + 1) := by
  funext i
  unfold upd asC
  by_cases h : i = k
  · subst h; simp
  · rw [if_neg h]
    by_cases h2 : i < k
    · simp [h2, show i < k + 1 by omega]
    · simp [h2, show ¬ i < k + 1 by omega]
section
variable {B : Nat} {T : Nat → Nat} {w w' : World} {x : X}
theorem StrL.below {base lim p a j ln long : Nat} {F : Nat → ByteArray} {A C : Nat → Bool} (h : StrL base lim w p a j ln long F A C) (hp : p < lim) (hb : Below lim w w') : StrL base lim w' p a j ln long F A C := by
  obtain ⟨st, q, c, fr, ak, cm, h1, h2, h3, h4, h5, h6, h7, h8, h9⟩ := h
  exact ⟨st, q, c, fr, ak, cm, h1.below hb hp, h2.below hb h6.2, h3.below hb h7.2, h4.below hb h8.2, h5, h6, h7, h8, h9⟩
theorem Only.more_ {S : Nat → Prop} {w2 w4 : World} (h : Only S w w2) (hb : Below w.heap.size w2 w4) : Only S w w4 :=
  ⟨hb.os.trans h.os, hb.tape.trans h.tape, hb.output.trans h.output, Nat.le_trans h.size hb.size, fun k hk hs => (hb.block k hk).trans (h.block k hk hs)⟩
/-- Where missing's loop stands. -/
def MiRel (base : Nat) (w : World) (x : X) (t : SS) (p j ln long k : Nat) (v3 : Value) (wr : World) : Prop :=
  StrL base w.heap.size wr p x.a j ln long (asF x t j k) (asA k) (asC x t j long k) ∧ Only (fun k => base ≤ k ∧ k < w.heap.size) w wr ∧ wr.ownsRow w.heap.size 3 1 v3 (misL x t j long k).length (nums (misL x t j long k))
theorem Arr.only {base lim : Nat} (h : Arr B T w x) (ho : Only (fun k => base ≤ k ∧ k < lim) w w') (hT : ∀ k, base ≤ k → T k = 0) : Arr B T w' x := by
  have hk : ∀ k, T k ≠ 0 → k < w.heap.size → w'.heap[k]? = w.heap[k]? := fun k hk hl => ho.block k hl fun c => hk (hT k c.1)
  exact ⟨⟨Nat.le_trans h.fits.1 ho.size, fun k hk => ⟨(h.fits.2 k hk).1, Nat.lt_of_lt_of_le (h.fits.2 k hk).2 ho.size⟩⟩, fun i hi => part_keep (h.all i hi) fun k hk2 hl => hk k (by rw [hk2]; exact hi) hl⟩
set_option maxRecDepth 100000 in
set_option maxHeartbeats 3200000 in
theorem missing_ok (h : Arr B T w x) {j : Nat} {t : SS} (hj : x.L[j]? = some t) (ho : OkS t) (hj4 : j < 4096) {base p ln long : Nat} (hr : StrAt base w p x.a j ln long (fun _ => ⟨#[]⟩) (fun _ => false) (fun _ => false)) (hT : ∀ k, base ≤ k → T k = 0) (hbase : base ≤ w.heap.size) :
    Calls Tryz.prog 64 #[.pointer (some ⟨p, 0, none⟩)] w fun e w' => ∃ v, e = .returned v ∧ w'.ownsRow w.heap.size 3 1 v (misL x t j long 4).length (nums (misL x t j long 4)) ∧ StrL base w.heap.size w' p x.a j ln long (asF x t j 4) (asA 4) (asC x t j long 4) ∧ Only (fun k => base ≤ k ∧ k < w.heap.size) w w' := by
  have h0 : Hid (MiRel base w x t p j ln long 0 (.slice none 0 0) w) := by
    refine ⟨?_, Only.refl _ _, World.ownsRow_nil _ _ _ _⟩
    have e1 : asF x t j 0 = fun _ => ⟨#[]⟩ := by funext i; simp [asF]
    have e2 : asA 0 = fun _ => false := by funext i; simp [asA]
    have e3 : asC x t j long 0 = fun _ => false := by funext i; simp [asC]
    rw [e1, e2, e3]
    exact hr.low
  have H := hid (And.intro h (And.intro hj (And.intro ho (And.intro hj4 (And.intro hT hbase)))))
  obtain ⟨st, q, c, fr, ak, cm, h1, _⟩ := hr
  have p8 : w.cell? ⟨p, 8, none⟩ = some (.slice (some ⟨fr, 0, none⟩) 4 4) := (h1.cell 8).trans rfl
  have hpl := h1.lt
  clear h hj ho hj4 hT h1 hbase
  go_enter Tryz.func64, Tryz.ntmps64
  go_wp2_with fail
  go_loopw [3, 10] (fun v3 v10 wr => ∃ k : Nat, k ≤ 4 ∧ v10 = .int .i64 k ∧ Hid (MiRel base w x t p j ln long k v3 wr)) (fun _ v10 _ => 4 - (intOf v10).toNat)
  case atStart => exact ⟨0, by omega, rfl, h0⟩
  case round =>
    obtain ⟨k, hk, rfl, hI⟩ := hrel
    by_cases hk4 : k < 4
    · obtain ⟨r1, r2, r3⟩ := hI.out
      have hA := H.out.1.only r2 H.out.2.2.2.2.1
      have hask := ask_ok hA H.out.2.1 H.out.2.2.1 H.out.2.2.2.1 r1 hk4 (by simp [asA])
      rw [asF_succ, asA_succ, asC_succ] at hask
      obtain ⟨cam, hcam⟩ : ∃ cam, cam = cameB (fragX x t j k) long := ⟨_, rfl⟩
      rw [← hcam] at hask
      have HS := hid hask
      have HC := hid hcam
      have HR := hid (And.intro r2 r3)
      have hsz := r2.size
      have hl4 := misL_len x t j long k
      clear hask hA r1 r2 r3 hcam
      have q1 : (0 : Int) ≤ (k : Int) := by omega
      have q2 : (k : Int) < 4 := by omega
      go_wp2_with fail
      refine HS.out.mono ?_
      rintro e w2 ⟨rfl, s1, s2⟩
      have hrow : Hid (w2.ownsRow w.heap.size 3 1 u3 (misL x t j long k).length (nums (misL x t j long k))) := own_keep HR.out.2 fun b hb hlt => s2.block b hlt (fun c => by have := c.2; omega)
      have HW := hid (And.intro s1 (HR.out.1.trans s2))
      have hsz2 : w.heap.size ≤ w2.heap.size := HW.out.2.size
      clear s1 s2 HS
      cases cam with
      | true =>
        have hm : misL x t j long (k + 1) = misL x t j long k := by
          show (if cameB (fragX x t j k) long = true then _ else _) = _
          rw [if_pos HC.out.symm]
        have HM := hid hm
        clear hm
        go_wp2_with fail
        go_roundw
        case rel => exact ⟨k + 1, by omega, by go_num, HW.out.1, HW.out.2, by rw [HM.out]; exact hrow.out⟩
        case measure => simp [intOf]; omega
      | false =>
        have hm : misL x t j long (k + 1) = misL x t j long k ++ [(k : Int)] := by
          show (if cameB (fragX x t j k) long = true then _ else _) = _
          rw [if_neg (by rw [← HC.out]; decide)]
        have HM := hid hm
        clear hm
        go_wp2_with (at_builtin; refine wpList_app1 _ rfl (.tmp 17) (.tmp 19) 26 3 (.int .i64 0) 8 rfl Tryz.underlying26 info3 rfl (by decide) w.heap.size u3 (misL x t j long k).length (nums (misL x t j long k)) rfl (.inl hrow.out) _ rfl rfl (by omega) hsz2 ?_; intro v' w4 h5 h6; have H5 := hid h5; have H6 := hid h6; clear h5 h6)
        go_roundw
        case rel =>
          refine ⟨k + 1, by omega, by go_num, ?_, ?_, ?_⟩
          · exact HW.out.1.below hpl H6.out
          · exact HW.out.2.more_ H6.out
          · rw [HM.out, List.length_append]
            have := H5.out
            simpa [nums] using this
        case measure => simp [intOf]; omega
    · obtain rfl : k = 4 := by omega
      obtain ⟨r1, r2, r3⟩ := hI.out
      have HR := hid (And.intro r1 (And.intro r2 r3))
      clear r1 r2 r3
      go_wp2_with fail
      go_ret
      exact ⟨_, rfl, HR.out.2.2, HR.out.1, HR.out.2.1⟩
end
end Go.Proofs.YtopbojifllnckaaGreatDoor
