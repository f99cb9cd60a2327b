/- reader: whole, Read. reader: Read, Missing, Check. fsck: stripe, right. -/
import Derived.Test.YtopbojifllnckaaGreatDoorG38
import Derived.Test.YtopbojifllnckaaGreatDoorG29
namespace Go.Proofs.YtopbojifllnckaaGreatDoor
open Go.RowKit
attribute [local irreducible] wpQuiet
/-- A text's fragments are there, but for at most one. -/
structure Good (x : X) (t : SS) (j : Nat) (s : ByteArray) (bad : Option Nat) : Prop where
  ln : t.ln = s.size
  s1 : 1 ≤ s.size
  s2 : s.size ≤ 1536
  here : ∀ i, i < 4 → bad ≠ some i → fragX x t j i = ((fragsS s).getD i ⟨#[]⟩, 0)
  gone : ∀ i, bad = some i → i < 4 ∧ (fragX x t j i).2 ≠ 0
/-- The numbers of what is gone. -/
def badL : Option Nat → List Int
  | none => []
  | some i => [(i : Int)]
theorem frag_size (s : ByteArray) {i : Nat} (hi : i < 4) : ((fragsS s).getD i ⟨#[]⟩).size = longN s.size := by
  have h : i < (fragsS s).length := by rw [fragsS_len]; exact hi
  rw [show (fragsS s).getD i ⟨#[]⟩ = (fragsS s)[i] by simp [List.getD, h]]
  exact fragsS_size s _ (List.getElem_mem h)
section
variable {x : X} {t : SS} {j : Nat} {s : ByteArray} {bad : Option Nat}
theorem Good.came (h : Good x t j s bad) {i : Nat} (hi : i < 4) (hb : bad ≠ some i) : cameB (fragX x t j i) (longN s.size) = true := by
  rw [h.here i hi hb]
  simp [cameB, -List.getD_eq_getElem?_getD, frag_size s hi]
theorem Good.not (h : Good x t j s bad) {i : Nat} (hb : bad = some i) : cameB (fragX x t j i) (longN s.size) = false := by
  have := (h.gone i hb).2
  simp [cameB, this]
theorem Good.mis (h : Good x t j s bad) : misL x t j (longN s.size) 4 = badL bad := by
  have hu : misL x t j (longN s.size) 4 = (((if cameB (fragX x t j 0) (longN s.size) = true then [] else [0]) ++ (if cameB (fragX x t j 1) (longN s.size) = true then [] else [1])) ++ (if cameB (fragX x t j 2) (longN s.size) = true then [] else [2])) ++ (if cameB (fragX x t j 3) (longN s.size) = true then [] else [3]) := by
    simp only [misL]
    cases cameB (fragX x t j 0) (longN s.size) <;> cases cameB (fragX x t j 1) (longN s.size) <;> cases cameB (fragX x t j 2) (longN s.size) <;> cases cameB (fragX x t j 3) (longN s.size) <;> rfl
  rw [hu]
  cases bad with
  | none => rw [h.came (i := 0) (by omega) (by simp), h.came (i := 1) (by omega) (by simp), h.came (i := 2) (by omega) (by simp), h.came (i := 3) (by omega) (by simp)]; rfl
  | some b =>
    have hb4 := (h.gone b rfl).1
    rcases (show b = 0 ∨ b = 1 ∨ b = 2 ∨ b = 3 by omega) with rfl | rfl | rfl | rfl
    · rw [h.not (i := 0) rfl, h.came (i := 1) (by omega) (by simp), h.came (i := 2) (by omega) (by simp), h.came (i := 3) (by omega) (by simp)]; rfl
    · rw [h.came (i := 0) (by omega) (by simp), h.not (i := 1) rfl, h.came (i := 2) (by omega) (by simp), h.came (i := 3) (by omega) (by simp)]; rfl
    · rw [h.came (i := 0) (by omega) (by simp), h.came (i := 1) (by omega) (by simp), h.not (i := 2) rfl, h.came (i := 3) (by omega) (by simp)]; rfl
    · rw [h.came (i := 0) (by omega) (by simp), h.came (i := 1) (by omega) (by simp), h.came (i := 2) (by omega) (by simp), h.not (i := 3) rfl]; rfl
end
/-- Four texts, by their numbers. -/
def four (F : Nat → ByteArray) : List ByteArray := [F 0, F 1, F 2, F 3]
theorem four_get (F : Nat → ByteArray) {i : Nat} (hi : i < 4) : (four F)[i]? = some (F i) := by
  rcases (show i = 0 ∨ i = 1 ∨ i = 2 ∨ i = 3 by omega) with rfl | rfl | rfl | rfl <;> rfl
theorem four_frags (s : ByteArray) : four (fun i => (fragsS s).getD i ⟨#[]⟩) = fragsS s := by
  refine List.ext_getElem? fun i => ?_
  by_cases hi : i < 4
  · rw [four_get _ hi]
    have h : i < (fragsS s).length := by rw [fragsS_len]; exact hi
    simp [List.getD, h]
  · rw [List.getElem?_eq_none (by simp [four]; omega), List.getElem?_eq_none (by rw [fragsS_len]; omega)]
theorem four_congr {F G : Nat → ByteArray} (h : ∀ i, i < 4 → F i = G i) : four F = four G := by
  simp [four, h 0, h 1, h 2, h 3]
section
variable {B : Nat} {T : Nat → Nat} {w w' : World} {x : X}
theorem StrL.congr {base lim p a j ln long : Nat} {F G : Nat → ByteArray} {A C : Nat → Bool} (h : StrL base lim w p a j ln long F A C) (hF : ∀ i, i < 4 → F i = G i) : StrL base lim w p a j ln long G A C := by
  obtain ⟨st, q, c, fr, ak, cm, h1, h2, h3⟩ := h
  rw [hF 0 (by omega), hF 1 (by omega), hF 2 (by omega), hF 3 (by omega)] at h2
  exact ⟨st, q, c, fr, ak, cm, h1, h2, h3⟩
/-- The texts, when k of what is missing was given. -/
def whF (x : X) (t : SS) (j : Nat) (s : ByteArray) (k i : Nat) : ByteArray := if k = 0 then asF x t j 4 i else (fragsS s).getD i ⟨#[]⟩
/-- Where whole's loop stands. -/
def WhoR (base : Nat) (w w0 : World) (x : X) (t : SS) (p j ln long : Nat) (s : ByteArray) (bad : Option Nat) (v : Value) (k : Nat) (wr : World) : Prop :=
  StrL base w.heap.size wr p x.a j ln long (whF x t j s k) (asA 4) (asC x t j long 4) ∧ Only (fun k => base ≤ k ∧ k < w.heap.size) w wr ∧ wr.ownsRow w.heap.size 3 1 v (badL bad).length (nums (badL bad)) ∧ w0.heap.size ≤ wr.heap.size
set_option maxRecDepth 100000 in
set_option maxHeartbeats 3200000 in
theorem whole_ok (h : Arr B T w x) {j : Nat} {t : SS} (hj : x.L[j]? = some t) (ho : OkS t) (hj4 : j < 4096) {s : ByteArray} {bad : Option Nat} (hg : Good x t j s bad) {base p : Nat} (hr : StrAt base w p x.a j s.size (longN s.size) (fun _ => ⟨#[]⟩) (fun _ => false) (fun _ => false)) (hT : ∀ k, base ≤ k → T k = 0) (hbase : base ≤ w.heap.size) :
    Calls Tryz.prog 56 #[.pointer (some ⟨p, 0, none⟩)] w fun e w' => e = .returned (.tuple #[.string s, .int .i64 0]) ∧ Only (fun k => base ≤ k ∧ k < w.heap.size) w w' := by
  have hmis := missing_ok h hj ho hj4 hr hT hbase
  rw [hg.mis] at hmis
  have HM := hid hmis
  have HG := hid hg
  have hpl : p < w.heap.size := by obtain ⟨_, _, _, _, _, _, h1, _⟩ := hr; exact h1.lt
  have hbl : (badL bad).length ≤ 1 := by cases bad <;> simp [badL]
  clear h hj ho hj4 hr hT hmis hg
  go_enter Tryz.func56, Tryz.ntmps56
  go_wp2_with fail
  refine HM.out.mono ?_
  rintro e w1 ⟨v, rfl, hv, hs, hon⟩
  obtain ⟨n, hn⟩ : ∃ n, n = (badL bad).length := ⟨_, rfl⟩
  obtain ⟨A, c, rfl⟩ := own_form hv
  have H0 : Hid (WhoR base w w x t p j s.size (longN s.size) s bad (.slice A (badL bad).length c) 0 w1) := ⟨hs.congr fun i _ => by simp [whF], hon, hv, hon.size⟩
  have hd1 : decide ((1 : Int) < (n : Int)) = false := by simp; omega
  have HN := hid hn
  rw [← hn] at H0 ⊢
  have hn1 : n ≤ 1 := by omega
  clear hv hs hon HM hn hbl
  go_wp2_with fail
  go_loopw [14] (fun v14 wr => ∃ k : Nat, k ≤ n ∧ v14 = .int .i64 k ∧ Hid (WhoR base w w x t p j s.size (longN s.size) s bad (.slice A n c) k wr)) (fun v14 _ => n - (intOf v14).toNat)
  case atStart => exact ⟨0, by omega, rfl, H0⟩
  case round =>
    obtain ⟨k, hk, rfl, hI⟩ := hrel
    obtain ⟨r1, r2, r3, r4⟩ := hI.out
    obtain ⟨st, q, c', fr, ak, cm, h1, h2, h3, h4, h5, h6, h7, h8, h9⟩ := r1
    have p8 : wr.cell? ⟨p, 8, none⟩ = some (.slice (some ⟨fr, 0, none⟩) 4 4) := (h1.cell 8).trans rfl
    have p5 : wr.cell? ⟨p, 5, none⟩ = some (.int .i64 s.size) := (h1.cell 5).trans rfl
    have hpr := h1.lt
    have nf : p ≠ fr := h1.ne_ h2 (by decide)
    by_cases hkn : k < n
    · obtain ⟨b, rfl⟩ : ∃ b, bad = some b := by
        cases bad with
        | none => rw [HN.out] at hkn; simp [badL] at hkn
        | some b => exact ⟨b, rfl⟩
      obtain rfl : k = 0 := by omega
      have hb4 := (HG.out.gone b rfl).1
      rw [← HN.out] at r3
      have hhr := (own_holdsS r3).1
      obtain ⟨ad, rfl, hab, hcs⟩ := hhr (by simp [nums, badL])
      have e0 : wr.cell? (ad.add 0) = some (.int .i64 b) := hcs 0 _ rfl
      have e1 : wr.cell? ad = some (.int .i64 b) := by
        have : ad.add 0 = ad := by cases ad; simp [Addr.add]
        rw [← this]
        exact e0
      have hF : ∀ i, i < 4 → i ≠ b → whF x t j s 0 i = (fragsS s).getD i ⟨#[]⟩ := fun i hi hne => by
        show (if (0 : Nat) = 0 then asF x t j 4 i else _) = _
        rw [if_pos rfl]
        unfold asF
        rw [if_pos hi, HG.out.here i hi (by simpa using Ne.symm hne)]
      have hgv := give_back s (four (whF x t j s 0)) b rfl hb4 fun i hi hne => by
        rw [four_get _ hi, hF i hi hne]
        have h : i < (fragsS s).length := by rw [fragsS_len]; exact hi
        simp [List.getD, h]
      obtain ⟨g, hgd⟩ : ∃ g, g = mkB (longN s.size) (xorB (four (whF x t j s 0)) b 4) := ⟨_, rfl⟩
      have hgive : Hid (∀ W2, W2 = wr.drew → Calls Tryz.prog 115 #[.slice (some ⟨fr, 0, none⟩) 4 4, .int .i64 b] W2 fun e w' => e = .returned (.tuple #[.string g, .int .i64 0]) ∧ (w'.cell? ⟨p, 8, none⟩ = some (.slice (some ⟨fr, 0, none⟩) 4 4)) ∧ Below W2.heap.size W2 w') := by
        show ∀ W2, _
        rintro W2 rfl
        have hh : Holds wr.drew wr.drew.heap.size (some ⟨fr, 0, none⟩) (strs (four (whF x t j s 0))) := Holds.of_blk (w := wr.drew) (B := wr.heap.size) (t := 9) h2 0 4 h2.lt
        rw [hgd]
        refine (Give_ok (w := wr.drew) (c := 4) (m := longN s.size) (four (whF x t j s 0)) b hh rfl hb4 (by have := HG.out.s2; unfold longN; omega) fun i u hu hne => ?_).mono ?_
        · have hi : i < 4 := (List.getElem?_eq_some_iff.1 hu).1
          rw [four_get _ hi, hF i hi (by omega)] at hu
          cases hu
          exact frag_size s hi
        · rintro e w' ⟨he, hb⟩
          exact ⟨he, ((Blk.below (w := wr.drew) h1 hb h1.lt).cell 8).trans rfl, hb⟩
      have HH := hid (And.intro h1 (And.intro h2 (And.intro h3 (And.intro h4 (And.intro h5 (And.intro h6 (And.intro h7 (And.intro h8 (And.intro h9 (And.intro r2 (And.intro r3 (And.intro r4 (And.intro hF (And.intro hgv (And.intro hgd nf)))))))))))))))
      have hb0 : (0 : Int) ≤ (b : Int) := by omega
      have hb5 : (b : Int) < 4 := by omega
      obtain ⟨uf, ef⟩ : ∃ u, wr.cell? ⟨fr, b, none⟩ = some u := ⟨_, four_at (fun i => .string (whF x t j s 0 i)) h2 hb4⟩
      clear h1 h2 h3 h4 h5 h6 h7 h8 h9 r2 r3 r4 hF hgv hgd hcs hab hhr
      go_upto_region 7 with (fail)
      go_region_held3 (fun w' => w'.cell? ⟨p, 8, none⟩ = some (.slice (some ⟨fr, 0, none⟩) 4 4)) (first | (with_reducible exact p8) | (with_reducible exact hS) | exact farc nf _ hS | go_keep) ((go_at_call 115; refine (hgive.out _ (by rfl)).mono ?_; rintro e w2 ⟨rfl, hS, hbw⟩; have hfb := HH.out.2.1.below ((Below.refl wr.heap.size wr).drew.trans hbw) HH.out.2.1.lt; have hfc := four_at (fun i => .string (whF x t j s 0 i)) hfb hb4; have hff := hfb.frozen b))
      have hN1 : n = 1 := HN.out
      have HB := hid hbw
      clear hbw hfb hfc hff hS hgive
      go_wp2_with fail
      go_roundw
      case rel =>
        refine ⟨1, by omega, by go_num, ?_, ?_, ?_, ?_⟩
        · obtain ⟨h1, h2, h3, h4, h5, h6, h7, h8, h9, r2, r3, r4, hF, hgv, hgd, nf⟩ := HH.out
          have hb1 : Below wr.heap.size wr w2 := (Below.refl wr.heap.size wr).drew.trans HB.out
          have k1 := h1.below hb1 h1.lt
          have k2 := h2.below hb1 h2.lt
          have k3 := h3.below hb1 h3.lt
          have k4 := h4.below hb1 h4.lt
          have m2 := k2.set_ b (.string g)
          rw [upd4s _ b hb4] at m2
          have hs : StrL base w.heap.size (w2.setCell ⟨fr, b, none⟩ (.string g)) p x.a j s.size (longN s.size) (upd (whF x t j s 0) b g) (asA 4) (asC x t j (longN s.size) 4) :=
            ⟨st, q, c', fr, ak, cm, k1.far nf _, m2, k3.far (p := ⟨fr, b, none⟩) (k3.ne_ k2 (by decide)) _, k4.far (p := ⟨fr, b, none⟩) (k4.ne_ k2 (by decide)) _, h5, h6, h7, h8, h9⟩
          refine hs.congr fun i hi => ?_
          show upd (whF x t j s 0) b g i = (if (1 : Nat) = 0 then _ else (fragsS s).getD i ⟨#[]⟩)
          rw [if_neg (by omega)]
          by_cases e : i = b
          · subst e
            rw [upd_same, hgd]
            have h : i < (fragsS s).length := by rw [fragsS_len]; exact hi
            have h2 := hgv
            rw [List.getElem?_eq_getElem h, Option.some.injEq] at h2
            rw [h2]
            simp [List.getD, h]
          · rw [upd_other _ _ e]
            exact hF i hi e
        · obtain ⟨h1, h2, h3, h4, h5, h6, h7, h8, h9, r2, r3, r4, hF, hgv, hgd, nf⟩ := HH.out
          exact (r2.more_ (((Below.refl wr.heap.size wr).drew.trans HB.out).mono r2.size)).setCell (p := ⟨fr, b, none⟩) (.inl h6) _
        · obtain ⟨h1, h2, h3, h4, h5, h6, h7, h8, h9, r2, r3, r4, hF, hgv, hgd, nf⟩ := HH.out
          have hb1 : Below wr.heap.size wr w2 := (Below.refl wr.heap.size wr).drew.trans HB.out
          rw [HN.out] at r3 ⊢
          exact own_far (own_keep r3 fun k _ hk => hb1.block k hk) fr b h6.2 _
        · obtain ⟨h1, h2, h3, h4, h5, h6, h7, h8, h9, r2, r3, r4, hF, hgv, hgd, nf⟩ := HH.out
          have hb1 : Below wr.heap.size wr w2 := (Below.refl wr.heap.size wr).drew.trans HB.out
          have := hb1.size
          simp [World.setCell]
          omega
      case measure => simp [intOf]; omega
    · obtain rfl : k = n := by omega
      have hF : ∀ i, i < 4 → whF x t j s k i = (fragsS s).getD i ⟨#[]⟩ := fun i hi => by
        unfold whF
        split
        · rename_i hk0
          have hbn : bad = none := by
            cases bad with
            | none => rfl
            | some b => rw [HN.out] at hk0; simp [badL] at hk0
          unfold asF
          rw [if_pos hi, HG.out.here i hi (by rw [hbn]; simp)]
        · rfl
      have hjoin : Hid (∀ W2, W2 = wr.drew → Calls Tryz.prog 116 #[.slice (some ⟨fr, 0, none⟩) 4 4, .int .i64 s.size] W2 fun e w' => e = .returned (.tuple #[.string s, .int .i64 0]) ∧ (w'.cell? ⟨p, 8, none⟩ = some (.slice (some ⟨fr, 0, none⟩) 4 4) ∧ w'.cell? ⟨p, 5, none⟩ = some (.int .i64 s.size)) ∧ Below W2.heap.size W2 w') := by
        show ∀ W2, _
        rintro W2 rfl
        have hh : Holds wr.drew wr.drew.heap.size (some ⟨fr, 0, none⟩) (strs (four (whF x t j s k))) := Holds.of_blk (w := wr.drew) (B := wr.heap.size) (t := 9) h2 0 4 h2.lt
        have e4 : four (whF x t j s k) = fragsS s := by rw [four_congr hF, four_frags]
        rw [e4] at hh
        have hj := Join_ok (w := wr.drew) (c := 4) (fragsS s) s.size hh (fragsS_len s) HG.out.s1 HG.out.s2 (fragsS_size s)
        rw [join_back s (long3 _)] at hj
        refine hj.mono ?_
        rintro e w' ⟨he, hb⟩
        have hb' := Blk.below (w := wr.drew) h1 hb h1.lt
        exact ⟨he, ⟨(hb'.cell 8).trans rfl, (hb'.cell 5).trans rfl⟩, hb⟩
      have HR := hid r2
      clear h1 h2 h3 h4 h5 h6 h7 h8 h9 r2 r3 r4 hF
      go_upto_region 9 with (fail)
      go_region_held3 (fun w' => w'.cell? ⟨p, 8, none⟩ = some (.slice (some ⟨fr, 0, none⟩) 4 4) ∧ w'.cell? ⟨p, 5, none⟩ = some (.int .i64 s.size)) (first | (with_reducible exact ⟨p8, p5⟩) | (with_reducible exact hS) | go_keep) ((go_at_call 116; refine (hjoin.out _ (by rfl)).mono ?_; rintro e w2 ⟨rfl, hS, hbw⟩))
      have HB := hid hbw
      clear hbw hS hjoin
      go_wp2_with fail
      go_ret2
      exact ⟨rfl, HR.out.more_ (((Below.refl wr.heap.size wr).drew.trans HB.out).mono HR.out.size)⟩
end
end Go.Proofs.YtopbojifllnckaaGreatDoor
namespace Go.Proofs.YtopbojifllnckaaGreatDoor
open Go.RowKit
attribute [local irreducible] wpQuiet
section
variable {B : Nat} {T : Nat → Nat} {w w' : World} {x : X}
theorem Only.to {base lim : Nat} (h : Only (fun k => base ≤ k ∧ k < lim) w w') (hb : base ≤ w.heap.size) : Below base w w' := h.below hb fun k hk c => by have := c.1; omega
theorem of_good (h : Arr B T w x) {j : Nat} {t : SS} (hj : x.L[j]? = some t) (hst : t.st = 2) {s : ByteArray} {bad : Option Nat} (hg : Good x t j s bad) :
    Calls Tryz.prog 55 #[.pointer (some ⟨x.a, 0, none⟩), .int .i64 j] w fun e w' => ∃ p, e = .returned (.tuple #[.pointer (some ⟨p, 0, none⟩), .int .i64 0]) ∧ StrAt w.heap.size w' p x.a j s.size (longN s.size) (fun _ => ⟨#[]⟩) (fun _ => false) (fun _ => false) ∧ Below w.heap.size w w' := by
  have := of_ok h hj hst (by rw [hg.ln]; have := hg.s2; omega)
  rw [hg.ln] at this
  exact this
set_option maxRecDepth 100000 in
set_option maxHeartbeats 1600000 in
theorem Read_good (h : Arr B T w x) {j : Nat} {t : SS} (hj : x.L[j]? = some t) (hst : t.st = 2) (ho : OkS t) (hj4 : j < 4096) {s : ByteArray} {bad : Option Nat} (hg : Good x t j s bad) :
    Calls Tryz.prog 19 #[.pointer (some ⟨x.a, 0, none⟩), .int .i64 j] w fun e w' => e = .returned (.tuple #[.string s, .int .i64 0]) ∧ Below w.heap.size w w' := by
  obtain ⟨a, ha⟩ : ∃ a, a = x.a := ⟨_, rfl⟩
  have hof := of_good h hj hst hg
  rw [← ha] at hof ⊢
  have HOF := hid hof
  have H := hid (And.intro h (And.intro hj (And.intro ho (And.intro hj4 (And.intro hg ha)))))
  clear h hj hst ho hj4 hg hof ha
  go_enter Tryz.func19, Tryz.ntmps19
  go_wp2_with fail
  refine HOF.out.mono ?_
  rintro e w1 ⟨p, rfl, hr, hb⟩
  obtain ⟨h, hj, ho, hj4, hg, ha⟩ := H.out
  have h1 := h.below hb
  have hT : ∀ k, w.heap.size ≤ k → T k = 0 := fun k hk => h.fits.zero hk
  rw [ha] at hr
  have hwh := hid (whole_ok h1 hj ho hj4 hg hr hT hb.size)
  have HB := hid hb
  clear h hj ho hj4 hg ha h1 hT hr hb
  go_wp2_with fail
  refine hwh.out.mono ?_
  rintro e w2 ⟨rfl, ho⟩
  have HO := hid ho
  clear ho hwh
  go_wp2_with fail
  go_ret2
  exact ⟨rfl, HB.out.trans (HO.out.to HB.out.size)⟩
set_option maxRecDepth 100000 in
set_option maxHeartbeats 1600000 in
theorem Missing_good (h : Arr B T w x) {j : Nat} {t : SS} (hj : x.L[j]? = some t) (hst : t.st = 2) (ho : OkS t) (hj4 : j < 4096) {s : ByteArray} {bad : Option Nat} (hg : Good x t j s bad) :
    Calls Tryz.prog 117 #[.pointer (some ⟨x.a, 0, none⟩), .int .i64 j] w fun e w' => ∃ v, e = .returned v ∧ w'.ownsRow w.heap.size 3 1 v (badL bad).length (nums (badL bad)) ∧ Below w.heap.size w w' := by
  obtain ⟨a, ha⟩ : ∃ a, a = x.a := ⟨_, rfl⟩
  have hof := of_good h hj hst hg
  rw [← ha] at hof ⊢
  have HOF := hid hof
  have H := hid (And.intro h (And.intro hj (And.intro ho (And.intro hj4 (And.intro hg ha)))))
  clear h hj hst ho hj4 hg hof ha
  go_enter Tryz.func117, Tryz.ntmps117
  go_wp2_with fail
  refine HOF.out.mono ?_
  rintro e w1 ⟨p, rfl, hr, hb⟩
  obtain ⟨h, hj, ho, hj4, hg, ha⟩ := H.out
  have h1 := h.below hb
  have hT : ∀ k, w.heap.size ≤ k → T k = 0 := fun k hk => h.fits.zero hk
  rw [ha] at hr
  have hm := missing_ok h1 hj ho hj4 hr hT hb.size
  rw [hg.mis] at hm
  have hms := hid hm
  have HB := hid hb
  clear h hj ho hj4 hg ha h1 hT hr hb hm
  go_wp2_with fail
  refine hms.out.mono ?_
  rintro e w2 ⟨v, rfl, hv, _, ho⟩
  have HO := hid (And.intro hv ho)
  clear hv ho hms
  go_wp2_with fail
  go_ret
  exact ⟨v, rfl, own_lower HO.out.1 HB.out.size, HB.out.trans (HO.out.2.to HB.out.size)⟩
set_option maxRecDepth 100000 in
set_option maxHeartbeats 1600000 in
theorem Check_good (h : Arr B T w x) {j : Nat} {t : SS} (hj : x.L[j]? = some t) (hst : t.st = 2) (ho : OkS t) (hj4 : j < 4096) {s : ByteArray} (hg : Good x t j s none) :
    Calls Tryz.prog 23 #[.pointer (some ⟨x.a, 0, none⟩), .int .i64 j] w fun e w' => e = .returned (.int .i64 0) ∧ Below w.heap.size w w' := by
  obtain ⟨a, ha⟩ : ∃ a, a = x.a := ⟨_, rfl⟩
  have hof := of_good h hj hst hg
  rw [← ha] at hof ⊢
  have HOF := hid hof
  have H := hid (And.intro h (And.intro hj (And.intro ho (And.intro hj4 (And.intro hg ha)))))
  clear h hj hst ho hj4 hg hof ha
  go_enter Tryz.func23, Tryz.ntmps23
  go_wp2_with fail
  refine HOF.out.mono ?_
  rintro e w1 ⟨p, rfl, hr, hb⟩
  obtain ⟨h, hj, ho, hj4, hg, ha⟩ := H.out
  have h1 := h.below hb
  have hT : ∀ k, w.heap.size ≤ k → T k = 0 := fun k hk => h.fits.zero hk
  rw [ha] at hr
  have hm := missing_ok h1 hj ho hj4 hr hT hb.size
  rw [hg.mis] at hm
  have hms := hid hm
  have HB := hid hb
  have HG := hid hg
  have hpl : p < w1.heap.size := by obtain ⟨_, _, _, _, _, _, k1, _⟩ := hr; exact k1.lt
  clear h hj ho hj4 hg ha h1 hT hr hb hm
  go_wp2_with fail
  refine hms.out.mono ?_
  rintro e w2 ⟨v, rfl, hv, hs, ho⟩
  obtain ⟨A, c, rfl⟩ := own_form hv
  obtain ⟨st, q, c', fr, ak, cm, k1, k2, _⟩ := hs
  have p8 : w2.cell? ⟨p, 8, none⟩ = some (.slice (some ⟨fr, 0, none⟩) 4 4) := (k1.cell 8).trans rfl
  have hp2 := k1.lt
  have hh : Holds w2 w2.heap.size (some ⟨fr, 0, none⟩) (strs (fragsS s)) := by
    have e4 : four (asF x t j 4) = fragsS s := by
      rw [← four_frags s]
      refine four_congr fun i hi => ?_
      unfold asF
      rw [if_pos hi, HG.out.here i hi (by simp)]
    rw [← e4]
    exact Holds.of_blk k2 0 4 k2.lt
  have hrt := hid (Right_ok (c := 4) (fragsS s) hh (fragsS_len s) (m := longN s.size) (by have := HG.out.s2; unfold longN; omega) (fragsS_size s) (right_sum s))
  have HO := hid ho
  have hbl : (badL none).length = 0 := rfl
  clear hv ho hms k1 k2 hh
  go_wp2_with fail
  refine hrt.out.mono ?_
  rintro e w3 ⟨rfl, hb3⟩
  have HB3 := hid hb3
  clear hb3 hrt
  go_wp2_with fail
  go_ret
  have h12 := HB.out.trans (HO.out.to HB.out.size)
  exact ⟨rfl, h12.trans (HB3.out.mono h12.size)⟩
end
end Go.Proofs.YtopbojifllnckaaGreatDoor
namespace Go.Proofs.YtopbojifllnckaaGreatDoor
open Go.RowKit
attribute [local irreducible] wpQuiet
section
variable {B : Nat} {T T' : Nat → Nat} {w w' : World} {x : X}
/-- What fsck.stripe knows of memory. -/
def FsAt (w0 wr : World) (z fb j ln q c : Nat) (xs : List Int) : Prop :=
  Below w0.heap.size w0 wr ∧ Blk wr z 37 #[.int .i64 j, .int .i64 2, .int .i64 3, .int .i64 1, .int .i64 ln, .slice (some ⟨q, 0, none⟩) 4 c] ∧ Blk wr fb 216 #[.slice none 0 0] ∧ wr.ownsRow w0.heap.size 3 1 (.slice (some ⟨q, 0, none⟩) 4 c) 4 (nums xs)
theorem FsAt.below {w0 : World} {z fb j ln q c : Nat} {xs : List Int} (h : FsAt w0 w z fb j ln q c xs) (hb : Below w.heap.size w w') : FsAt w0 w' z fb j ln q c xs :=
  ⟨h.1.trans (hb.mono h.1.size), h.2.1.below hb h.2.1.lt, h.2.2.1.below hb h.2.2.1.lt, own_keep h.2.2.2 fun k _ hk => hb.block k hk⟩
set_option maxRecDepth 100000 in
set_option maxHeartbeats 3200000 in
theorem fstripe_ok (h : Arr B T w x) {j : Nat} {t : SS} (hj : x.L[j]? = some t) (hst : t.st = 2) (ho : OkS t) (hj4 : j < 4096) {s : ByteArray} (hg : Good x t j s none) :
    Calls Tryz.prog 62 #[.pointer (some ⟨x.a, 0, none⟩), .int .i64 j] w fun e w' => e = .returned (.slice none 0 0) ∧ Below w.heap.size w w' := by
  obtain ⟨a, ha⟩ : ∃ a, a = x.a := ⟨_, rfl⟩
  obtain ⟨gm, hgm⟩ : ∃ gm, gm = x.gm := ⟨_, rfl⟩
  have hm := aMan h
  have hs := aStripe h hj
  rw [← ha, ← hgm] at hm
  rw [← hgm, hst, hg.ln] at hs
  have HM := hid hm
  have HS := hid hs
  have hln6 : s.size ≤ 65536 := by have := hg.s2; omega
  have hlong : Hid (∀ W2, Calls Tryz.prog 107 #[.int .i64 s.size, .int .i64 4] W2 fun e w' => e = .returned (.int .i64 (longN s.size)) ∧ W2 = w') := fun W2 => Long_ok s.size hln6 W2
  obtain ⟨long, hlg⟩ : ∃ long, long = longN s.size := ⟨_, rfl⟩
  rw [← hlg] at hlong
  have H := hid (And.intro h (And.intro hj (And.intro hst (And.intro ho (And.intro hj4 (And.intro hg (And.intro ha hlg)))))))
  rw [← ha]
  clear h hj hst ho hj4 hg hm hs ha hgm hlg hln6
  go_enter Tryz.func62, Tryz.ntmps62
  go_wp2_with fail
  refine HM.out.mono ?_
  rintro e w0 ⟨rfl, rfl⟩
  go_wp2_with fail
  refine HS.out.mono ?_
  rintro e w1 ⟨q, c, rfl, hq, hbb⟩
  go_upto_region 2 with (fail)
  obtain ⟨V, hV⟩ : ∃ V, V = w1.alloc (.cells #[.int .i64 j, .int .i64 2, .int .i64 3, .int .i64 1, .int .i64 s.size, .slice (some ⟨q, 0, none⟩) 4 c] 37) := ⟨_, rfl⟩
  obtain ⟨z, hz⟩ : ∃ z, z = w1.heap.size := ⟨_, rfl⟩
  rw [← hV, ← hz]
  have hBz : Blk V z 37 #[.int .i64 j, .int .i64 2, .int .i64 3, .int .i64 1, .int .i64 s.size, .slice (some ⟨q, 0, none⟩) 4 c] := by rw [hV, hz]; exact Blk.new w1 37 _
  have hbV : Below w.heap.size w V := by rw [hV]; exact hbb.alloc hbb.size _
  have hqV : V.ownsRow w.heap.size 3 1 (.slice (some ⟨q, 0, none⟩) 4 c) 4 (nums t.xs) := by rw [hV]; exact hq.alloc _
  have z4 : V.cell? ⟨z, 4, none⟩ = some (.int .i64 s.size) := (hBz.cell 4).trans rfl
  have z5 : V.cell? ⟨z, 5, none⟩ = some (.slice (some ⟨q, 0, none⟩) 4 c) := (hBz.cell 5).trans rfl
  have hzl := hBz.lt
  have HV := hid (And.intro hBz (And.intro hbV hqV))
  clear hV hz hBz hbV hqV hq hbb HM HS
  go_wp2_with fail
  refine (hlong.out _).mono ?_
  rintro e w2 ⟨rfl, rfl⟩
  go_upto_region 4 with (fail)
  obtain ⟨U, hU⟩ : ∃ U, U = V.alloc (.cells #[.slice none 0 0] 216) := ⟨_, rfl⟩
  obtain ⟨fb, hfb⟩ : ∃ fb, fb = V.heap.size := ⟨_, rfl⟩
  rw [← hU, ← hfb]
  have H0 : Hid (FsAt w U z fb j s.size q c t.xs) := by
    have hb : Below V.heap.size V U := by rw [hU]; exact (Below.refl _ _).alloc (Nat.le_refl _) _
    refine ⟨HV.out.2.1.trans (hb.mono HV.out.2.1.size), HV.out.1.below hb HV.out.1.lt, ?_, own_keep HV.out.2.2 fun k _ hk => hb.block k hk⟩
    rw [hU, hfb]
    exact Blk.new V 216 _
  have u5 : U.cell? ⟨z, 5, none⟩ = some (.slice (some ⟨q, 0, none⟩) 4 c) := (H0.out.2.1.cell 5).trans rfl
  have hzU := H0.out.2.1.lt
  clear hU hfb z4 z5 hzl HV
  go_wp2_with fail
  clear u5 hzU
  go_loopw [30] (fun v30 wr => ∃ i : Nat, i ≤ 4 ∧ v30 = .int .i64 i ∧ Hid (FsAt w wr z fb j s.size q c t.xs)) (fun v30 _ => 4 - (intOf v30).toNat)
  case atStart => exact ⟨0, by omega, rfl, H0⟩
  case round =>
    obtain ⟨i, hi, rfl, hI⟩ := hrel
    have y5 : wr.cell? ⟨z, 5, none⟩ = some (.slice (some ⟨q, 0, none⟩) 4 c) := (hI.out.2.1.cell 5).trans rfl
    have hzl := hI.out.2.1.lt
    obtain ⟨h, hj, hst, ho, hj4, hg, ha, hlg⟩ := H.out
    by_cases hi4 : i < 4
    · have hcc : 4 ≤ c ∧ c ≤ maxLen := by
        obtain ⟨_, _, _, _, hc4, hcm⟩ := own_q hI.out.2.2.2 (by omega)
        exact ⟨hc4, hcm⟩
      have hls := layServer_ok (w := wr) (st := j) (j := i) (hid (IntsAt.of_holds (own_holdsS hI.out.2.2.2).1)) (Nat.le_refl _) ho.len hcc.1 hcc.2 ho.grp hj4 hi4
      obtain ⟨yy, hyy⟩ : ∃ yy, yy = t.xs.getD ((i + j) % 4) 0 := ⟨_, rfl⟩
      rw [← hyy] at hls
      have HLS := hid hls
      have hf0 := hid (fun (W2 : World) (hb : Below wr.heap.size wr W2) => aFragment (h.below (hI.out.1.trans (hb.mono hI.out.1.size))) hj ho hj4 hi4)
      rw [hg.here i hi4 (by simp), ← ha] at hf0
      obtain ⟨fr, hfr⟩ : ∃ fr, fr = (fragsS s).getD i ⟨#[]⟩ := ⟨_, rfl⟩
      rw [← hfr] at hf0
      have hfs : fr.size = long := by rw [hfr, hlg]; exact frag_size s hi4
      have i0 : (0 : Int) ≤ (i : Int) := by omega
      have i1 : (i : Int) < 4 := by omega
      clear h hj hst ho hj4 hg ha hlg hls hyy hcc hfr
      go_wp2_with fail
      refine HLS.out.mono ?_
      rintro e w3 ⟨rfl, hb3⟩
      have HB3 := hid hb3
      have hfc := hid (hf0.out w3 hb3)
      clear hb3 HLS hf0 y5 hzl
      go_wp2_with fail
      refine hfc.out.mono ?_
      rintro e w4 ⟨rfl, hb4⟩
      have HB4 := hid ((hI.out.below HB3.out).below hb4)
      clear hb4 hfc
      go_wp2_with fail
      go_roundw
      case rel => exact ⟨i + 1, by omega, by go_num, HB4⟩
      case measure => simp [intOf]; omega
    · obtain rfl : i = 4 := by omega
      have f0 : wr.cell? ⟨fb, 0, none⟩ = some (.slice none 0 0) := (hI.out.2.2.1.cell 0).trans rfl
      have hfl := hI.out.2.2.1.lt
      have hck := Check_good (h.below hI.out.1) hj hst ho hj4 hg
      rw [← ha] at hck
      have HC := hid hck
      clear h hj hst ho hj4 hg ha hlg hck y5 hzl
      go_wp2_with fail
      refine HC.out.mono ?_
      rintro e w3 ⟨rfl, hb3⟩
      have HB := hid (hI.out.below hb3)
      have f1 : w3.cell? ⟨fb, 0, none⟩ = some (.slice none 0 0) := (HB.out.2.2.1.cell 0).trans rfl
      have hfl3 := HB.out.2.2.1.lt
      clear hb3 HC f0 hfl
      go_wp2_with fail
      go_ret
      exact ⟨rfl, HB.out.1⟩
end
end Go.Proofs.YtopbojifllnckaaGreatDoor
