/- Sorting places that are in order: insertion sort, SortFunc. frags.List, servers.List. servers.List, fsck.strays. rebuild: Left. -/
import Derived.Test.YtopbojifllnckaaGreatDoorG40
namespace Go.Proofs.YtopbojifllnckaaGreatDoor
open Go.RowKit
attribute [local irreducible] wpQuiet
/-- Places' cells. -/
def plC : List Fr → List Value
  | [] => []
  | f :: l => [.int .i64 f.st, .int .i64 f.ix] ++ plC l
theorem plC_len : ∀ l, (plC l).length = l.length * 2
  | [] => rfl
  | f :: l => by
    have := plC_len l
    simp only [plC, List.length_append, List.length_cons, List.length_nil]
    omega
theorem plC_get : ∀ (l : List Fr) (k : Nat) (f : Fr), l[k]? = some f → (plC l)[k * 2]? = some (.int .i64 f.st) ∧ (plC l)[k * 2 + 1]? = some (.int .i64 f.ix)
  | [], _, _, h => by simp at h
  | f :: l, 0, g, h => by
    simp only [List.getElem?_cons_zero, Option.some.injEq] at h
    subst h
    exact ⟨rfl, rfl⟩
  | f :: l, k + 1, g, h => by
    simp only [List.getElem?_cons_succ] at h
    have := plC_get l k g h
    have e1 : (k + 1) * 2 = k * 2 + 2 := by omega
    rw [e1]
    exact this
theorem plC_append (l : List Fr) (f : Fr) : plC (l ++ [f]) = plC l ++ [.int .i64 f.st, .int .i64 f.ix] := by
  induction l with
  | nil => rfl
  | cons a l ih => simp only [List.cons_append, plC, ih, List.append_assoc]
/-- Places in order. -/
def InOrder (l : List Fr) : Prop := ∀ k f g, l[k]? = some f → l[k + 1]? = some g → f.st < g.st
section
variable {w w' : World} {A : Option Addr} {c : Nat} {l : List Fr}
set_option maxRecDepth 100000 in
set_option maxHeartbeats 3200000 in
theorem insertion_ok (hA : ∀ ad, A = some ad → ∃ g, ad = ⟨g, 0, none⟩) (hh : Holds w w.heap.size A (plC l)) (hn6 : l.length ≤ 6) (ho : InOrder l) :
    Calls Tryz.prog 334 #[.slice A l.length c, .int .i64 0, .int .i64 l.length, .func (.func 248) #[] #[]] w fun e w' => e = .returned (.tuple #[]) ∧ Below w.heap.size w w' := by
  obtain ⟨n, hn⟩ : ∃ n, n = l.length := ⟨_, rfl⟩
  have H := hid (And.intro hh (And.intro ho (And.intro hn hA)))
  rw [← hn] at hn6 ⊢
  clear hh ho hn hA
  go_enter Tryz.func334, Tryz.ntmps334
  go_wp2_with fail
  go_loopw [8] (fun v8 wr => ∃ i : Nat, 1 ≤ i ∧ i ≤ n + 1 ∧ v8 = .int .i64 i ∧ Hid (Below w.heap.size w wr)) (fun v8 _ => n + 1 - (intOf v8).toNat)
  case atStart => exact ⟨1, by omega, by omega, rfl, Below.refl _ _⟩
  case round =>
    obtain ⟨i, hi1, hi2, rfl, hI⟩ := hrel
    by_cases hin : i < n
    · have q1 : (i : Int) < (n : Int) := by omega
      go_wp2_with fail
      go_loopw [9] (fun v9 wi => v9 = .int .i64 i ∧ Hid (Below w.heap.size w wi)) (fun _ _ => 0)
      case atStart => exact ⟨rfl, hI⟩
      case round =>
        obtain ⟨rfl, hJ⟩ := hrel
        obtain ⟨k, hk⟩ : ∃ k, i = k + 1 := ⟨i - 1, by omega⟩
        have hkl : i < l.length := by rw [← H.out.2.2.1]; exact hin
        obtain ⟨f, hf⟩ : ∃ f, l[k]? = some f := ⟨_, List.getElem?_eq_getElem (by omega)⟩
        obtain ⟨g, hg⟩ : ∃ g, l[i]? = some g := ⟨_, List.getElem?_eq_getElem hkl⟩
        have hlt := H.out.2.1 k f g hf (by rw [← hk]; exact hg)
        obtain ⟨ad, rfl, hab, hcs⟩ := H.out.1 (by rw [plC_len]; omega)
        obtain ⟨p, rfl⟩ := H.out.2.2.2 ad rfl
        have hcel : ∀ j u, (plC l)[j]? = some u → wr.cell? ⟨p, j, none⟩ = some u := fun j u hu => by
          have := hcs j u hu
          rw [add_plain] at this
          exact (hJ.out.cell (World.block_lt_of_cell? w _ this)).trans this
        have e0 := hcel _ _ (plC_get l i g hg).1
        have e1 := hcel _ _ (plC_get l i g hg).2
        have e2 := hcel _ _ (plC_get l k f hf).1
        have e3 := hcel _ _ (plC_get l k f hf).2
        have hpl : p < wr.heap.size := World.block_lt_of_cell? wr _ e0
        have hless := hid (fun W2 => less_ok g.st g.ix f.st f.ix (by omega) W2)
        have q5 : (i : Int) - 1 = (k : Int) := by omega
        generalize g.st = gs at e0 hless
        generalize g.ix = gi at e1 hless
        generalize f.st = fs at e2 hless
        generalize f.ix = fi at e3 hless
        have q2 : (0 : Int) < (i : Int) := by omega
        have q3 : (0 : Int) ≤ (k : Int) := by omega
        have q4 : (k : Int) < (n : Int) := by omega
        have q6 : (0 : Int) ≤ (i : Int) := by omega
        have q8 : decide (0 < i) = true := by simp; omega
        have q9 : 0 < i := by omega
        have q7 : IntKind.i64.wrap (k : Int) = (k : Int) := by rw [IntKind.wrap_i64]; omega
        clear hkl hf hg hlt hab hcs hcel hk
        go_upto_region 4 with (fail)
        go_still_tail 14, (by kernel_rfl)
        change wpList _ _ _ _ _ (wr.drewN 1)
        go_wp2_with fail
        refine (hless.out _).mono ?_
        rintro e w2 ⟨rfl, hb2⟩
        have HB := hid (hJ.out.trans (((below_drewN (Below.refl wr.heap.size wr) 1).trans hb2).mono hJ.out.size))
        clear hb2 hless e0 e1 e2 e3
        go_wp2_with fail
        refine ⟨⟨i + 1, by omega, by omega, by go_num, HB⟩, ?_⟩
        simp [intOf]
        omega
    · have q1 : ¬ ((i : Int) < (n : Int)) := by omega
      go_wp2_with fail
      exact bodyPost_end (v := .tuple #[]) (by simp [results, Tryz.results334, go_sem]) rfl ⟨rfl, hI.out⟩
theorem pdq_ok (hA : ∀ ad, A = some ad → ∃ g, ad = ⟨g, 0, none⟩) (hh : Holds w w.heap.size A (plC l)) (hn6 : l.length ≤ 6) (ho : InOrder l) (z : Int) :
    Calls Tryz.prog 306 #[.slice A l.length c, .int .i64 0, .int .i64 l.length, .int .i64 z, .func (.func 248) #[] #[]] w fun e w' => e = .returned (.tuple #[]) ∧ Below w.heap.size w w' := by
  have hi := hid (insertion_ok (c := c) hA hh hn6 ho)
  have q1 : (l.length : Int) ≤ 12 := by omega
  generalize l.length = n at hi q1
  clear hh ho hA hn6
  go_enter Tryz.func306, Tryz.ntmps306
  go_wp2_with fail
  go_loopw [1, 2] (fun v1 v2 wr => v1 = .int .i64 0 ∧ v2 = .int .i64 n ∧ wr = w) (fun _ _ _ => 0)
  case atStart => exact ⟨rfl, rfl, rfl⟩
  case round =>
    obtain ⟨rfl, rfl, rfl⟩ := hrel
    go_wp2_with fail
    refine hi.out.mono ?_
    rintro e w' ⟨rfl, hb⟩
    have HB := hid hb
    clear hb hi
    go_wp2_with fail
    exact bodyPost_ret (v := .tuple #[]) (by simp [results, Tryz.results306, go_sem]) rfl ⟨rfl, HB.out⟩
theorem sort_ok (hA : ∀ ad, A = some ad → ∃ g, ad = ⟨g, 0, none⟩) (hh : Holds w w.heap.size A (plC l)) (hn6 : l.length ≤ 6) (ho : InOrder l) :
    Calls Tryz.prog 247 #[.slice A l.length c, .func (.func 248) #[] #[]] w fun e w' => e = .returned (.tuple #[]) ∧ Below w.heap.size w w' := by
  have hl := hid (len_any l.length hn6 w)
  have hp := hid (fun (z : Int) (W2 : World) (hb : Below w.heap.size w W2) => pdq_ok (c := c) (w := W2) hA ((hh.below hb).more hb.size) hn6 ho z)
  generalize l.length = n at hl hp hn6
  clear hh ho hA
  go_enter Tryz.func247, Tryz.ntmps247
  go_wp2_with fail
  refine hl.out.mono ?_
  rintro e w1 ⟨⟨z, rfl⟩, hb⟩
  have h2 := hid (hp.out z w1 hb)
  have HB := hid hb
  clear hb hl hp
  go_wp2_with fail
  refine h2.out.mono ?_
  rintro e w2 ⟨rfl, hb2⟩
  have HB2 := hid (HB.out.trans (hb2.mono HB.out.size))
  clear hb2 h2
  go_wp2_with fail
  exact bodyPost_end (v := .tuple #[]) (by simp [results, Tryz.results247, go_sem]) rfl ⟨rfl, HB2.out⟩
end
end Go.Proofs.YtopbojifllnckaaGreatDoor
namespace Go.Proofs.YtopbojifllnckaaGreatDoor
open Go.RowKit
attribute [local irreducible] wpQuiet
section
variable {P : Program} {w : World} {o : Oper} {a : Act} {Q : Exit → Act → World → Prop}
/-- One element of two cells more, out of a row that was just built. -/
theorem wpList_app2 {ops : Array Oper} {rest : List Oper} (hgd : o.guard = none) (s x : Operand) (t e : TypeId) (z : Value) (bytes : Nat) (ho : o.op = .call { callee := .builtin .append, args := #[s, x], argTypes := #[t, t] })
    (ht : P.underlying t = some (.slice e)) (hinfo : (P.info? e).map (fun i => (i.zero, i.size, i.bytes)) = some (some z, 2, bytes)) (hz : z.cells.size = 2) (hb0 : 0 < bytes)
    (base : Nat) (v : Value) (n : Nat) (xs : List Value) (hs : a.eval s = v) (hown : w.ownsRow base e 2 v n xs) (u1 u2 : Value) (hx : a.eval x = .slice (some ⟨w.heap.size, 0, none⟩) 1 1)
    (h1 : u1.oneCell' = true) (h2 : u2.oneCell' = true) (hlen : (n + 1) * bytes ≤ 140737488355328) (hbase : base ≤ w.heap.size)
    (h : ∀ v' w', w'.ownsRow base e 2 v' (n + 1) (xs ++ [u1, u2]) → Below base w w' → wpList P ops Q rest (a.put o.dst v') w') : wpList P ops Q (o :: rest) a (w.alloc (.cells #[u1, u2] e)) := by
  refine wpList_appF (w.alloc (.cells #[u1, u2] e)) hgd s x t e z 2 bytes ho ht hinfo hz (by omega) hb0 base v n xs hs (.inl (hown.alloc _)) (w.heap.size + 1) (some ⟨w.heap.size, 0, none⟩) 1 1 [u1, u2] hx rfl (by omega) ?_ (by simp [h1, h2]) hlen (by simp; omega) fun v' w' h3 h4 => h v' w' h3 ?_
  · have := Holds.of_blk (B := w.heap.size + 1) (Blk.new w e #[u1, u2]) 0 2 (by omega)
    simpa using this
  · exact ((Below.refl _ _).alloc hbase _).trans h4
end
theorem info122 : (Tryz.prog.info? 122).map (fun i => (i.zero, i.size, i.bytes)) = some (some (.agg #[.int .i64 0, .int .i64 0]), 2, 16) := by kernel_rfl
section
variable {S : Nat → Prop} {w w' : World} {g d : Nat} {C : List Fr}
/-- Where List's loop stands. -/
def FlRel (w wr : World) (C : List Fr) (i : Nat) (v3 : Value) : Prop := wr.ownsRow w.heap.size 122 2 v3 (C.take i).length (plC (C.take i)) ∧ Below w.heap.size w wr
set_option maxRecDepth 100000 in
set_option maxHeartbeats 3200000 in
theorem fList_ok (h : Store S w g d C) (hC : C.length ≤ 6) (ho : InOrder C) :
    Calls Tryz.prog 188 #[.pointer (some ⟨g, 0, none⟩)] w fun e w' => ∃ v, e = .returned v ∧ w'.ownsRow w.heap.size 122 2 v C.length (plC C) ∧ Below w.heap.size w w' := by
  obtain ⟨Sd, r, c, L, D, h1, h2, h3, h4⟩ := h
  have e1 : w.cell? ⟨g, 1, none⟩ = some (.slice (some ⟨r, 0, none⟩) 11 c) := by rw [← h3]; exact (h1.blk.cell 1).trans rfl
  have hgl := h1.blk.lt
  have hcap : 11 ≤ c := by rw [← h3]; exact h1.cap
  have H := hid (And.intro h1 (And.intro h2 (And.intro h3 (And.intro hC ho))))
  clear h1 h2 h3 h4 hC ho
  go_enter Tryz.func188, Tryz.ntmps188
  go_wp2_with fail
  go_loopw [3, 13] (fun v3 v13 wr => ∃ i : Nat, i ≤ 11 ∧ v13 = .int .i64 i ∧ Hid (FlRel w wr C i v3)) (fun _ v13 _ => 11 - (intOf v13).toNat)
  case atStart => exact ⟨0, by omega, rfl, World.ownsRow_nil _ _ _ _, Below.refl _ _⟩
  case round =>
    obtain ⟨i, hi, rfl, hI⟩ := hrel
    by_cases hi11 : i < 11
    · obtain ⟨s, hs⟩ : ∃ s, L[i]? = some s := ⟨_, List.getElem?_eq_getElem (by have := H.out.2.2.1; omega)⟩
      obtain ⟨f1, f2⟩ := hI.out
      have hsl := (H.out.1.slots.keep (fun hr => f2.block r hr)).four hs
      obtain ⟨c0, c1, c2, c3⟩ := hsl
      have hi0 : (0 : Int) ≤ (i : Int) := by omega
      have hi1 : (i : Int) < 11 := by omega
      have hsz := f2.size
      by_cases hic : i < C.length
      · obtain ⟨f, hf⟩ : ∃ f, C[i]? = some f := ⟨_, List.getElem?_eq_getElem hic⟩
        have hsf := (H.out.2.1.has i f hf).1
        rw [hs] at hsf
        cases hsf
        have et : C.take (i + 1) = C.take i ++ [f] := by rw [List.take_add_one, hf]; rfl
        have HT := hid et
        have hl : (C.take i).length = i := by rw [List.length_take]; omega
        have HR := hid (And.intro f1 f2)
        have HL := hid hl
        clear et hl f1 f2 hs hf hic
        obtain ⟨W, hW⟩ : ∃ W, W = wr.alloc (.cells #[.bool true, .int .i64 f.st, .int .i64 f.ix, .int .i64 f.body.size] 287) := ⟨_, rfl⟩
        have hB : Blk W wr.heap.size 287 #[.bool true, .int .i64 f.st, .int .i64 f.ix, .int .i64 f.body.size] := by rw [hW]; exact Blk.new wr 287 _
        have hbW : Below wr.heap.size wr W := by rw [hW]; exact (Below.refl _ _).alloc (Nat.le_refl _) _
        have y0 : W.cell? ⟨wr.heap.size, 0, none⟩ = some (.bool true) := (hB.cell 0).trans rfl
        have y1 : W.cell? ⟨wr.heap.size, 1, none⟩ = some (.int .i64 f.st) := (hB.cell 1).trans rfl
        have y2 : W.cell? ⟨wr.heap.size, 2, none⟩ = some (.int .i64 f.ix) := (hB.cell 2).trans rfl
        have hBl := hB.lt
        have hown : Hid (W.ownsRow w.heap.size 122 2 u3 (C.take i).length (plC (C.take i))) := own_keep HR.out.1 fun k _ hk => hbW.block k hk
        have HW := hid (HR.out.2.trans (hbW.mono hsz))
        have hszW := HW.out.size
        generalize f.body.size = fz at hW c3
        go_upto_region 7 with (fail)
        rw [← hW]
        clear hW hB hbW c0 c1 c2 c3 HR
        go_wp2_with (at_builtin; refine wpList_app2 rfl (.tmp 19) (.tmp 22) 220 122 (.agg #[.int .i64 0, .int .i64 0]) 16 rfl Tryz.underlying220 info122 rfl (by decide) w.heap.size u3 (C.take i).length (plC (C.take i)) rfl hown.out _ _ rfl rfl rfl (by rw [HL.out]; omega) hszW ?_; intro v' w4 h5 h6; have H5 := hid h5; have H6 := hid h6; clear h5 h6)
        go_roundw
        case rel =>
          refine ⟨i + 1, by omega, by go_num, ?_, HW.out.trans H6.out⟩
          rw [HT.out, plC_append, List.length_append]
          exact H5.out
        case measure => simp [intOf]; omega
      · have hoff := H.out.2.1.off i s (by omega) hs
        rw [hoff] at c0
        have et : C.take (i + 1) = C.take i := by rw [List.take_of_length_le (by omega), List.take_of_length_le (by omega)]
        have HT := hid et
        obtain ⟨W, hW⟩ : ∃ W, W = wr.alloc (.cells #[.bool false, .int .i64 s.st, .int .i64 s.ix, .int .i64 s.sz] 287) := ⟨_, rfl⟩
        have hbW : Below wr.heap.size wr W := by rw [hW]; exact (Below.refl _ _).alloc (Nat.le_refl _) _
        have hB : Blk W wr.heap.size 287 #[.bool false, .int .i64 s.st, .int .i64 s.ix, .int .i64 s.sz] := by rw [hW]; exact Blk.new wr 287 _
        have y0 : W.cell? ⟨wr.heap.size, 0, none⟩ = some (.bool false) := (hB.cell 0).trans rfl
        have hBl := hB.lt
        have HR : Hid (FlRel w W C (i + 1) u3) := by
          refine ⟨?_, f2.trans (hbW.mono hsz)⟩
          rw [et]
          exact own_keep f1 fun k _ hk => hbW.block k hk
        clear et f1 f2 hs hoff hB hbW
        go_upto_region 7 with (fail)
        rw [← hW]
        clear hW c0 c1 c2 c3
        go_wp2_with fail
        go_roundw
        case rel => exact ⟨i + 1, by omega, by go_num, HR⟩
        case measure => simp [intOf]; omega
    · obtain rfl : i = 11 := by omega
      obtain ⟨f1, f2⟩ := hI.out
      rw [List.take_of_length_le (by have := H.out.2.2.2.1; omega)] at f1
      obtain ⟨A, c', rfl⟩ := own_form f1
      have hA : ∀ ad, A = some ad → ∃ g, ad = ⟨g, 0, none⟩ := fun ad e => by
        rcases own_blk f1 with ⟨h, _⟩ | ⟨q, cur, h, _⟩
        · rw [h] at e; cases e
        · rw [h] at e; cases e; exact ⟨q, rfl⟩
      have hs := sort_ok (c := c') hA (own_holdsS f1).1 H.out.2.2.2.1 H.out.2.2.2.2
      have HS := hid hs
      have HR := hid (And.intro f1 f2)
      clear f1 f2 hA hs
      go_wp2_with fail
      refine HS.out.mono ?_
      rintro e w2 ⟨rfl, hb2⟩
      have HB := hid hb2
      clear hb2 HS
      go_wp2_with fail
      go_ret
      exact ⟨.slice A C.length c', rfl, own_keep HR.out.1 fun k _ hk => HB.out.block k hk, HR.out.2.trans (HB.out.mono HR.out.2.size)⟩
end
end Go.Proofs.YtopbojifllnckaaGreatDoor
namespace Go.Proofs.YtopbojifllnckaaGreatDoor
open Go.RowKit
attribute [local irreducible] wpQuiet
/-- What a server lists. -/
def lstX (x : X) (i : Nat) : List Fr := if x.ls i = true then [] else x.C i
/-- Whatever is listed is in order, and right. -/
def OkL (x : X) : Prop := ∀ n, n < 5 → (lstX x n).length ≤ 6 ∧ InOrder (lstX x n) ∧ ∀ f ∈ lstX x n, ∃ t, x.L[f.st]? = some t ∧ t.st = 2 ∧ OkS t ∧ f.st < 4096 ∧ f.ix < 4 ∧ onN t f.st f.ix = n
section
variable {B : Nat} {T T' : Nat → Nat} {w w' : World} {x : X}
theorem srvList (h : Arr B T w x) {i : Nat} (hi : i < 5) (hC : (lstX x i).length ≤ 6) (ho : InOrder (lstX x i)) :
    Calls Tryz.prog 125 #[.pointer (some ⟨x.sg, 0, none⟩), .int .i64 i] w fun e w' => ∃ v, e = .returned v ∧ w'.ownsRow w.heap.size 122 2 v (lstX x i).length (plC (lstX x i)) ∧ Below w.heap.size w w' := by
  obtain ⟨v, hv⟩ := h.srv.at_ hi
  have hst := h.sto hi
  have hat := hid (at_ok hv)
  obtain ⟨r, n, c, cs, _, _, _, _, _, hb⟩ := hv
  have e1 : w.cell? ⟨v, 1, none⟩ = some (.pointer (some ⟨x.g i, 0, none⟩)) := (hb.cell 1).trans rfl
  have e3 : w.cell? ⟨v, 3, none⟩ = some (.bool (x.ls i)) := (hb.cell 3).trans rfl
  have hvl := hb.lt
  clear hb
  unfold lstX at hC ho ⊢
  cases hls : x.ls i with
  | true =>
    rw [hls] at e3
    rw [if_pos rfl]
    clear hC ho hst h hls
    go_enter Tryz.func125, Tryz.ntmps125
    go_wp2_with fail
    refine hat.out.mono ?_
    rintro e w' ⟨rfl, rfl⟩
    go_wp2_with fail
    go_ret
    exact ⟨_, rfl, World.ownsRow_nil _ _ _ _, Below.refl _ _⟩
  | false =>
    rw [hls] at e3
    rw [hls, if_neg (by decide)] at hC ho
    rw [if_neg (by decide)]
    have hl := hid (fList_ok hst hC ho)
    generalize x.g i = gi at e1 hl
    clear hC ho hst h hls
    go_enter Tryz.func125, Tryz.ntmps125
    go_wp2_with fail
    refine hat.out.mono ?_
    rintro e w' ⟨rfl, rfl⟩
    go_wp2_with fail
    refine hl.out.mono ?_
    rintro e w1 ⟨v1, rfl, h1, h2⟩
    have H1 := hid (And.intro h1 h2)
    clear h1 h2 hl
    go_wp2_with fail
    go_ret
    exact ⟨v1, rfl, H1.out.1, H1.out.2⟩
/-- Where strays stands. -/
def SyAt (w wr : World) (fb : Nat) : Prop := Below w.heap.size w wr ∧ Blk wr fb 216 #[.slice none 0 0]
theorem SyAt.below {w0 : World} {fb : Nat} (h : SyAt w0 w fb) (hb : Below w.heap.size w w') : SyAt w0 w' fb := ⟨h.1.trans (hb.mono h.1.size), h.2.below hb h.2.lt⟩
set_option maxRecDepth 100000 in
set_option maxHeartbeats 3200000 in
theorem strays_ok (h : Arr B T w x) (hL : OkL x) :
    Calls Tryz.prog 63 #[.pointer (some ⟨x.a, 0, none⟩)] w fun e w' => e = .returned (.slice none 0 0) ∧ Below w.heap.size w w' := by
  obtain ⟨a, ha⟩ : ∃ a, a = x.a := ⟨_, rfl⟩
  obtain ⟨sg, hsg⟩ : ∃ sg, sg = x.sg := ⟨_, rfl⟩
  obtain ⟨U, hU⟩ : ∃ U, U = w.alloc (.cells #[.slice none 0 0] 216) := ⟨_, rfl⟩
  obtain ⟨fb, hfb⟩ : ∃ fb, fb = w.heap.size := ⟨_, rfl⟩
  have H0 : Hid (SyAt w U fb) := by
    rw [hU, hfb]
    exact ⟨(Below.refl _ _).alloc (Nat.le_refl _) _, Blk.new w 216 _⟩
  have HS : Hid (∀ W2, Below w.heap.size w W2 → Calls Tryz.prog 13 #[.pointer (some ⟨a, 0, none⟩)] W2 fun e w' => e = .returned (.pointer (some ⟨sg, 0, none⟩)) ∧ W2 = w') := by
    show ∀ W2, _
    intro W2 hb
    rw [ha, hsg]
    exact aSrv (h.below hb)
  have HLen : Hid (∀ W2, Below w.heap.size w W2 → Calls Tryz.prog 124 #[.pointer (some ⟨sg, 0, none⟩)] W2 fun e w' => e = .returned (.int .i64 5) ∧ W2 = w') := by
    show ∀ W2, _
    intro W2 hb
    rw [hsg]
    exact Len_ok (h.below hb).srv
  have HList : Hid (∀ i, i < 5 → ∀ W2, Below w.heap.size w W2 → Calls Tryz.prog 125 #[.pointer (some ⟨sg, 0, none⟩), .int .i64 ((i : Nat) : Int)] W2 fun e w' => ∃ v, e = .returned v ∧ w'.ownsRow W2.heap.size 122 2 v (lstX x i).length (plC (lstX x i)) ∧ Below W2.heap.size W2 w') := by
    show ∀ i, _
    intro i hi W2 hb
    rw [hsg]
    exact srvList (h.below hb) hi (hL i hi).1 (hL i hi).2.1
  have H := hid (And.intro h (And.intro hL ha))
  rw [← ha]
  clear h hL ha hsg
  go_enter Tryz.func63, Tryz.ntmps63
  go_upto_region 2 with (fail)
  rw [← hU, ← hfb]
  clear hU hfb
  go_wp2_with fail
  refine (HS.out _ H0.out.1).mono ?_
  rintro e w0 ⟨rfl, rfl⟩
  go_wp2_with fail
  refine (HLen.out _ H0.out.1).mono ?_
  rintro e w0 ⟨rfl, rfl⟩
  go_wp2_with fail
  go_loopw [10] (fun v10 wr => ∃ i : Nat, i ≤ 5 ∧ v10 = .int .i64 i ∧ Hid (SyAt w wr fb)) (fun v10 _ => 5 - (intOf v10).toNat)
  case atStart => exact ⟨0, by omega, rfl, H0⟩
  case round =>
    obtain ⟨i, hi, rfl, hI⟩ := hrel
    by_cases hi5 : i < 5
    · have i0 : (0 : Int) ≤ (i : Int) := by omega
      have i1 : (i : Int) < 5 := by omega
      go_wp2_with fail
      refine (HS.out _ hI.out.1).mono ?_
      rintro e w0 ⟨rfl, rfl⟩
      go_wp2_with fail
      refine (HList.out i hi5 _ hI.out.1).mono ?_
      rintro e w1 ⟨v, rfl, hv, hb1⟩
      obtain ⟨A, c, rfl⟩ := own_form hv
      obtain ⟨n, hn⟩ : ∃ n, n = (lstX x i).length := ⟨_, rfl⟩
      have HV := hid (And.intro hv hn)
      have HI1 := hid (hI.out.below hb1)
      have hnc := (own_holdsS hv).2.1
      have hn6 : n ≤ 6 := by rw [hn]; exact (H.out.2.1 i hi5).1
      rw [← hn] at hnc ⊢
      clear hv hb1 hn
      go_wp2_with fail
      go_loopw [18] (fun v18 wi => ∃ k : Nat, k ≤ n ∧ v18 = .int .i64 k ∧ Hid (SyAt w wi fb ∧ Below w1.heap.size w1 wi)) (fun v18 _ => n - (intOf v18).toNat)
      case atStart => exact ⟨0, by omega, rfl, HI1.out, Below.refl _ _⟩
      case round =>
        obtain ⟨k, hk, rfl, hJ⟩ := hrel
        by_cases hkn : k < n
        · obtain ⟨h, hL, ha⟩ := H.out
          have hkl : k < (lstX x i).length := by rw [← HV.out.2]; exact hkn
          obtain ⟨f, hf⟩ : ∃ f, (lstX x i)[k]? = some f := ⟨_, List.getElem?_eq_getElem hkl⟩
          obtain ⟨t, ht1, ht2, ht3, ht4, ht5, ht6⟩ := (hL i hi5).2.2 f (List.mem_of_getElem? hf)
          have hown := HV.out.1
          obtain ⟨q, hq⟩ : ∃ q, A = some ⟨q, 0, none⟩ := by
            rcases own_blk hown with ⟨_, h0, _⟩ | ⟨q, cur, h, _⟩
            · omega
            · exact ⟨q, h⟩
          subst hq
          obtain ⟨ad, had, _, hcs⟩ := (own_holdsS hown).1 (by rw [plC_len]; omega)
          cases had
          have hcel : ∀ j u, (plC (lstX x i))[j]? = some u → wr.cell? ⟨q, j, none⟩ = some u := fun j u hu => by
            have := hcs j u hu
            rw [add_plain] at this
            exact (hJ.out.2.cell (World.block_lt_of_cell? w1 _ this)).trans this
          have e0 := hcel _ _ (plC_get _ k f hf).1
          have e1 := hcel _ _ (plC_get _ k f hf).2
          have hpl : q < wr.heap.size := World.block_lt_of_cell? wr _ e0
          obtain ⟨W, hW⟩ : ∃ W, W = wr.alloc (.cells #[.int .i64 f.st, .int .i64 f.ix] 122) := ⟨_, rfl⟩
          have hbW : Below wr.heap.size wr W := by rw [hW]; exact (Below.refl _ _).alloc (Nat.le_refl _) _
          have hBW : Blk W wr.heap.size 122 #[.int .i64 f.st, .int .i64 f.ix] := by rw [hW]; exact Blk.new wr 122 _
          have hG := hJ.out.1.below hbW
          have hrt := right_ok (h.below hG.1) ht1 ht2 ht3 ht4 ht5
          rw [ht6, ← ha] at hrt
          have HRT := hid hrt
          have HG := hid (And.intro hG (hJ.out.2.trans (hbW.mono hJ.out.2.size)))
          have y0 : W.cell? ⟨wr.heap.size, 0, none⟩ = some (.int .i64 f.st) := (hBW.cell 0).trans rfl
          have y1 : W.cell? ⟨wr.heap.size, 1, none⟩ = some (.int .i64 f.ix) := (hBW.cell 1).trans rfl
          have hyl := hBW.lt
          have k0 : (0 : Int) ≤ (k : Int) := by omega
          have k1 : (k : Int) < (n : Int) := by omega
          generalize f.st = fs at e0 y0 hW HRT
          generalize f.ix = fi at e1 y1 hW HRT
          clear h hL ha hkl hf ht1 ht2 ht3 ht4 ht5 ht6 hown hcs hcel hbW hBW hG hrt
          go_upto_region 8 with (fail)
          rw [← hW]
          clear hW e0 e1
          go_wp2_with fail
          refine HRT.out.mono ?_
          rintro e w3 ⟨rfl, hb3⟩
          have HG3 := hid (And.intro (HG.out.1.below hb3) (HG.out.2.trans (hb3.mono HG.out.2.size)))
          clear hb3 HRT y0 y1
          go_wp2_with fail
          go_roundw
          case rel => exact ⟨k + 1, by omega, by go_num, HG3⟩
          case measure => simp [intOf]; omega
        · obtain rfl : k = n := by omega
          have HE := hid hJ.out.1
          go_wp2_with fail
          refine ⟨⟨i + 1, by omega, by go_num, HE⟩, ?_⟩
          simp [intOf]
          omega
    · obtain rfl : i = 5 := by omega
      have f0 : wr.cell? ⟨fb, 0, none⟩ = some (.slice none 0 0) := (hI.out.2.cell 0).trans rfl
      have hfl := hI.out.2.lt
      go_wp2_with fail
      go_ret
      exact ⟨rfl, hI.out.1⟩
end
end Go.Proofs.YtopbojifllnckaaGreatDoor
namespace Go.Proofs.YtopbojifllnckaaGreatDoor
open Go.RowKit
attribute [local irreducible] wpQuiet
/-- A stripe of a text. -/
def strOf (xs : List Int) (s : ByteArray) : SS := ⟨2, s.size, xs⟩
/-- An array whose spare stands in a hole, when t of the stripes were given back. -/
structure Rb (x : X) (xs : List Int) (ix : Nat → Nat) (S : List ByteArray) (t : Nat) : Prop where
  L : x.L = S.map (strOf xs)
  six : S.length ≤ 6
  tm : t ≤ S.length
  ok : ∀ s, OkS (strOf xs s)
  ix4 : ∀ j, ix j < 4
  at4 : ∀ j, atI (rowR xs j) 4 = ix j
  on4 : ∀ s j i, i < 4 → (onN (strOf xs s) j i = 4 ↔ i = ix j)
  up : x.dn 4 = false ∧ x.ls 4 = false
  C4 : (x.C 4).length = t ∧ ∀ f ∈ x.C 4, f.st < t
  good : ∀ j s, S[j]? = some s → Good x (strOf xs s) j s (if j < t then none else some (ix j))
  ol : OkL x
section
variable {x : X} {xs : List Int} {ix : Nat → Nat} {S : List ByteArray} {t : Nat}
theorem Rb.at_ (h : Rb x xs ix S t) {j : Nat} {s : ByteArray} (hj : S[j]? = some s) : x.L[j]? = some (strOf xs s) := by rw [h.L, List.getElem?_map, hj]; rfl
theorem Rb.len (h : Rb x xs ix S t) : x.L.length = S.length := by rw [h.L, List.length_map]
theorem Rb.two (h : Rb x xs ix S t) : ∀ u ∈ x.L, u.st = 2 := by
  intro u hu
  rw [h.L] at hu
  obtain ⟨s, _, rfl⟩ := List.mem_map.1 hu
  rfl
end
def badAt (ix : Nat → Nat) (t j : Nat) : Option Nat := if j < t then none else some (ix j)
/-- The numbers from t on, below i. -/
def fromT (t i : Nat) : List Int := (F.upto i).drop t
theorem fromT_len (t i : Nat) : (fromT t i).length = i - t := by simp [fromT, F.upto_len]
theorem fromT_low {t i : Nat} (h : i ≤ t) : fromT t i = [] := by
  unfold fromT
  rw [List.drop_eq_nil_iff, F.upto_len]
  exact h
theorem fromT_succ {t i : Nat} (h : t ≤ i) : fromT t (i + 1) = fromT t i ++ [(i : Int)] := by
  unfold fromT
  rw [F.upto_succ, List.drop_append_of_le_length (by rw [F.upto_len]; exact h)]
theorem fromT_get {t i k : Nat} (h : t + k < i) : (fromT t i)[k]? = some ((t + k : Nat) : Int) := by
  unfold fromT F.upto
  rw [List.getElem?_drop, List.getElem?_map, List.getElem?_range h]
  rfl
section
variable {B : Nat} {T T' : Nat → Nat} {w w' : World} {x : X} {r : Nat} {xs : List Int} {ix : Nat → Nat} {S : List ByteArray} {t : Nat}
theorem Rb.place (h : Arr B T w x) (hr : Reb T w r x.a 4) (hb : Rb x xs ix S t) {j : Nat} (hj : j < S.length) :
    Calls Tryz.prog 59 #[.pointer (some ⟨r, 0, none⟩), .int .i64 j] w fun e w' => e = .returned (.agg #[.int .i64 (plcA (badAt ix t j) j), .int .i64 (plcB (badAt ix t j) (ix j))]) ∧ Below w.heap.size w w' := by
  have hs : S[j]? = some S[j] := List.getElem?_eq_getElem hj
  have := hb.six
  refine place_ok h hr (hb.at_ hs) rfl (hb.ok _) (by omega) (hb.good j _ hs) (hb.at4 j) ?_
  by_cases c : j < t
  · exact .inl (if_pos c)
  · exact .inr (if_neg c)
/-- Where Left's loop stands. -/
def LeRel (w1 wr : World) (t i : Nat) (v3 : Value) : Prop :=
  wr.ownsRow w1.heap.size 3 1 v3 (fromT t i).length (nums (fromT t i)) ∧ Below w1.heap.size w1 wr
set_option maxRecDepth 100000 in
set_option maxHeartbeats 3200000 in
theorem Left_ok (h : Arr B T w x) (hr : Reb T w r x.a 4) (hb : Rb x xs ix S t) :
    Calls Tryz.prog 57 #[.pointer (some ⟨r, 0, none⟩)] w fun e w' => ∃ v, e = .returned v ∧ w'.ownsRow w.heap.size 3 1 v (fromT t S.length).length (nums (fromT t S.length)) ∧ Below w.heap.size w w' := by
  obtain ⟨a, ha⟩ : ∃ a, a = x.a := ⟨_, rfl⟩
  obtain ⟨gm, hgm⟩ : ∃ gm, gm = x.gm := ⟨_, rfl⟩
  obtain ⟨n, hn⟩ : ∃ n, n = S.length := ⟨_, rfl⟩
  have e0 : w.cell? ⟨r, 0, none⟩ = some (.pointer (some ⟨a, 0, none⟩)) := by rw [ha]; exact (hr.1.cell 0).trans rfl
  have e1 : w.cell? ⟨r, 1, none⟩ = some (.int .i64 4) := (hr.1.cell 1).trans rfl
  have hrl := hr.1.lt
  have hm := hid (aMan h)
  have hs0 := aStripes h (by rw [hb.len]; have := hb.six; omega) 2 hb.two
  rw [hb.len, ← hn] at hs0
  have hs := hid hs0
  rw [← ha, ← hgm] at hm
  rw [← hgm] at hs
  have hn6 : n ≤ 6 := by rw [hn]; exact hb.six
  have H := hid (And.intro h (And.intro hr (And.intro hb hn)))
  rw [← hn]
  clear h hr hb hn ha hgm hs0
  go_enter Tryz.func57, Tryz.ntmps57
  go_wp2_with fail
  refine hm.out.mono ?_
  rintro e w0 ⟨rfl, rfl⟩
  go_wp2_with fail
  refine hs.out.mono ?_
  rintro e w1 ⟨v, rfl, hv, hbb⟩
  obtain ⟨A, c, rfl⟩ := own_form hv
  have hnc := (own_holdsS hv).2.1
  have H0 : Hid (LeRel w1 w1 t 0 (.slice none 0 0)) := by
    refine ⟨?_, Below.refl _ _⟩
    rw [fromT_low (Nat.zero_le _)]
    exact World.ownsRow_nil _ _ _ _
  have HA : Hid (0 < n → ∃ ad, A = some ad ∧ ∀ k, k < n → w1.cell? (ad.add k) = some (.int .i64 k)) := fun hn0 => by
    obtain ⟨ad, rfl, _, hcs⟩ := (own_holdsS hv).1 (by rw [nums_length, F.upto_len]; exact hn0)
    exact ⟨ad, rfl, fun k hk => hcs k _ (by simp [nums, F.upto, hk])⟩
  have HB1 := hid hbb
  have hsz1 := hbb.size
  clear hv hbb hs hm
  go_wp2_with fail
  go_loopw [3, 22] (fun v3 v22 wr => ∃ i : Nat, i ≤ n ∧ v22 = .int .i64 i ∧ Hid (LeRel w1 wr t i v3)) (fun _ v22 _ => n - (intOf v22).toNat)
  case atStart => exact ⟨0, by omega, rfl, H0⟩
  case round =>
    obtain ⟨i, hi, rfl, hI⟩ := hrel
    by_cases hin : i < n
    · obtain ⟨q1, q2⟩ := hI.out
      obtain ⟨ad, rfl, hcs⟩ := HA.out (by omega)
      have e2 : wr.cell? (ad.add i) = some (.int .i64 i) := (q2.cell (World.block_lt_of_cell? w1 _ (hcs i hin))).trans (hcs i hin)
      obtain ⟨h, hr, hb, hn⟩ := H.out
      have q0 : Below w.heap.size w wr := HB1.out.trans (q2.mono hsz1)
      have hp0 := Rb.place (h.below q0) (hr.below q0) hb (j := i) (by omega)
      obtain ⟨pa, hpa⟩ : ∃ pa, pa = plcA (badAt ix t i) i := ⟨_, rfl⟩
      obtain ⟨pb, hpb⟩ : ∃ pb, pb = plcB (badAt ix t i) (ix i) := ⟨_, rfl⟩
      rw [← hpa, ← hpb] at hp0
      have HP := hid hp0
      have HQ := hid (And.intro q1 (And.intro q2 (And.intro hpa hpb)))
      have hsz := q2.size
      have i0 : (0 : Int) ≤ (i : Int) := by omega
      have i1 : (i : Int) < (n : Int) := by omega
      have hl6 : (fromT t i).length ≤ 6 := by rw [fromT_len]; omega
      clear q0 q1 q2 hcs h hr hb hn hp0 hpa hpb
      go_upto_region 7 with (fail)
      go_wp2_with fail
      refine HP.out.mono ?_
      rintro e w2 ⟨rfl, hb2⟩
      have hrow : Hid (w2.ownsRow w1.heap.size 3 1 u3 (fromT t i).length (nums (fromT t i))) := own_keep HQ.out.1 fun k _ hk => hb2.block k hk
      have HB := hid (HQ.out.2.1.trans (hb2.mono hsz))
      have hsz2 := HB.out.size
      clear hb2 HP e2
      by_cases hit : i < t
      · obtain rfl : pa = 0 := by rw [HQ.out.2.2.1]; simp [badAt, hit, plcA]
        obtain rfl : pb = -1 := by rw [HQ.out.2.2.2]; simp [badAt, hit, plcB]
        have e5 : fromT t (i + 1) = fromT t i := by rw [fromT_low (by omega), fromT_low (by omega)]
        have HE := hid e5
        clear e5
        go_wp2_with fail
        go_roundw
        case rel => exact ⟨i + 1, by omega, by go_num, by rw [HE.out]; exact hrow.out, HB.out⟩
        case measure => simp [intOf]; omega
      · obtain ⟨b, hbe⟩ : ∃ b : Nat, b = ix i := ⟨_, rfl⟩
        obtain rfl : pa = i := by rw [HQ.out.2.2.1]; simp [badAt, hit, plcA]
        obtain rfl : pb = b := by rw [HQ.out.2.2.2, hbe]; simp [badAt, hit, plcB]
        have e5 : fromT t (i + 1) = fromT t i ++ [(i : Int)] := fromT_succ (by omega)
        have HE := hid e5
        have d1 : ((b : Int) == -1) = false := by simp
        clear e5 hbe
        go_wp2_with (at_builtin; refine wpList_app1 _ rfl (.tmp 31) (.tmp 33) 26 3 (.int .i64 0) 8 rfl Tryz.underlying26 info3 rfl (by decide) w1.heap.size u3 (fromT t i).length (nums (fromT t i)) rfl (.inl hrow.out) _ rfl rfl (by omega) hsz2 ?_; intro v' w4 h5 h6; have H5 := hid h5; have H6 := hid h6; clear h5 h6)
        go_roundw
        case rel =>
          refine ⟨i + 1, by omega, by go_num, ?_, HB.out.trans H6.out⟩
          rw [HE.out, List.length_append]
          have := H5.out
          simpa [nums] using this
        case measure => simp [intOf]; omega
    · obtain rfl : i = n := by omega
      have HQ := hid (And.intro hI.out.1 hI.out.2)
      go_wp2_with fail
      go_ret
      exact ⟨_, rfl, own_lower HQ.out.1 hsz1, HB1.out.trans (HQ.out.2.mono hsz1)⟩
end
end Go.Proofs.YtopbojifllnckaaGreatDoor
