/- array.New: a new array and all its parts. TopStripes: what the writes leave, and what a lost disk leaves: plain. -/
import Derived.Lib.SmallJoins
import Derived.Test.YtopbojifllnckaaGreatDoorHHb
import Derived.Test.YtopbojifllnckaaGreatDoorG33
import Derived.Test.YtopbojifllnckaaGreatDoorG42
namespace Go.Proofs.YtopbojifllnckaaGreatDoor
open Go.RowKit
/-- The true block. -/
def trB (E : Env) (b : Nat) : Nat := ((E b).map (·.1)).getD 0
def Liv (E : Env) (b : Nat) : Prop := ∃ r, E b = some r
section
variable {P : Program} {E : Env} {σ : St} {w : World}
theorem trB_of {b : Nat} {r : Nat × Nat} (h : E b = some r) : trB E b = r.1 := by unfold trB; rw [h]; rfl
theorem trP {b : Nat} {c : Value} (h : conc E (.ptr (some (b, 0))) = some c) : Liv E b ∧ c = .pointer (some ⟨trB E b, 0, none⟩) := by
  obtain ⟨r, h1, h2⟩ := conc_ptr' h
  exact ⟨⟨r, h1⟩, by rw [trB_of h1]; exact h2⟩
theorem trM {b : Nat} {c : Value} (h : conc E (.map (some b)) = some c) : Liv E b ∧ c = .map (some (trB E b)) := by
  obtain ⟨r, h1, h2⟩ := conc_map' h
  exact ⟨⟨r, h1⟩, by rw [trB_of h1]; exact h2⟩
theorem trS {b n k : Nat} {ex : Bool} {c : Value} (h : conc E (.slc (some (b, 0)) n k ex) = some c) : Liv E b ∧ ∃ m, k ≤ m ∧ (ex = true → m = k) ∧ c = .slice (some ⟨trB E b, 0, none⟩) n m := by
  obtain ⟨r, m, h1, h2, h3, h4⟩ := conc_slc' h
  exact ⟨⟨r, h1⟩, m, h2, h3, by rw [trB_of h1]; exact h4⟩
theorem trC (hR : Rel P E σ w) {b e : Nat} {vs : List AV} (hb : Liv E b) (h : obC σ b e vs = true) : ∃ l : List Value, concs E vs = some l ∧ Blk w (trB E b) e l.toArray := by
  obtain ⟨r, hb⟩ := hb
  obtain ⟨cs, h1, h2⟩ := obC_blk hR hb h
  exact ⟨cs.toList, h2, by rw [trB_of hb]; exact h1⟩
theorem trO (hR : Rel P E σ w) {b : Nat} (hb : Liv E b) (h : obM σ b = true) : w.heap[trB E b]? = some (.map #[] 0) := by
  obtain ⟨r, hb⟩ := hb
  rw [trB_of hb]
  exact obM_map hR hb h
theorem mapNe' {a b : Nat} {t : TypeId} {cs : Array Value} {es : Array MapEntry} {n : Nat} (h : Blk w a t cs) (k : w.heap[b]? = some (.map es n)) : a ≠ b := fun e => by
  rw [← e, h] at k
  cases k
theorem flat_get {α : Type} (l : List α) : ∀ (n i k : Nat), i < n → k < l.length → (List.replicate n l).flatten[i * l.length + k]? = l[k]?
  | 0, i, k, h, _ => by omega
  | n + 1, 0, k, _, hk => by
    rw [List.replicate_succ, List.flatten_cons, Nat.zero_mul, Nat.zero_add, List.getElem?_append_left hk]
  | n + 1, i + 1, k, hi, hk => by
    rw [List.replicate_succ, List.flatten_cons, List.getElem?_append_right (by rw [Nat.add_mul]; omega), ← flat_get l n i k (by omega) hk]
    congr 1
    rw [Nat.add_mul]
    omega
theorem concs_flat {us : List AV} {ls : List Value} (hu : ∀ l, concs E us = some l → l = ls) : ∀ (n : Nat) {l : List Value}, concs E (List.replicate n us).flatten = some l → l = (List.replicate n ls).flatten
  | 0, l, h => concs_nil' h
  | n + 1, l, h => by
    rw [List.replicate_succ, List.flatten_cons] at h
    obtain ⟨l1, l2, h1, h2, rfl⟩ := concs_app _ _ h
    rw [hu l1 h1, concs_flat hu n h2, List.replicate_succ, List.flatten_cons]
theorem concs_get' : ∀ {us : List AV} {ds : List Value} {i : Nat} {u : AV}, concs E us = some ds → us[i]? = some u → ∃ c, ds[i]? = some c ∧ conc E u = some c
  | [], _, _, _, _, hu => by cases hu
  | v :: us, ds, i, u, h, hu => by
    obtain ⟨d, l, h1, h2, rfl⟩ := concs_cons' h
    cases i with
    | zero => simp only [List.getElem?_cons_zero, Option.some.injEq] at hu; subst hu; exact ⟨d, rfl, h1⟩
    | succ i =>
      simp only [List.getElem?_cons_succ] at hu ⊢
      exact concs_get' h2 hu
def blank : ByteArray := ⟨(List.replicate 64 (0 : UInt8)).toArray⟩
def noEnt : Ent := ⟨false, 0, 0, 0⟩
/-- A server, its device and its store: read off. -/
theorem srv_read (hR : Rel P E σ w) {v g d s r m k : Nat} {e : Bool} (h : srvB σ v g d s r m k e = true) (hv : Liv E v) :
    Blk w (trB E v) 106 #[.pointer (some ⟨trB E d, 0, none⟩), .pointer (some ⟨trB E g, 0, none⟩), .bool false, .bool false] ∧ Liv E g ∧ Liv E d ∧ Liv E s ∧ Liv E r ∧ Liv E m ∧
    ∀ S : Nat → Prop, S (trB E g) → S (trB E d) → S (trB E s) → S (trB E r) → S (trB E m) → Store S w (trB E g) (trB E d) [] := by
  unfold srvB at h
  simp only [Bool.and_eq_true] at h
  obtain ⟨h1, h2, h3, h4, h5, h6, h7⟩ := h
  have h7 : 11 ≤ k := Nat.le_of_ble_eq_true h7
  obtain ⟨l1, k1, B1⟩ := trC hR hv h1
  obtain ⟨_, _, q1, z1, rfl⟩ := concs_cons' k1
  obtain ⟨_, _, q2, z2, rfl⟩ := concs_cons' z1
  obtain ⟨_, _, q3, z3, rfl⟩ := concs_cons' z2
  obtain ⟨_, _, q4, z4, rfl⟩ := concs_cons' z3
  obtain rfl := concs_nil' z4
  obtain ⟨ld, rfl⟩ := trP q1
  obtain ⟨lg, rfl⟩ := trP q2
  obtain rfl := conc_bool' q3
  obtain rfl := conc_bool' q4
  obtain ⟨l2, k2, B2⟩ := trC hR lg h2
  obtain ⟨_, _, q1, z1, rfl⟩ := concs_cons' k2
  obtain ⟨_, _, q2, z2, rfl⟩ := concs_cons' z1
  obtain ⟨_, _, q3, z3, rfl⟩ := concs_cons' z2
  obtain rfl := concs_nil' z3
  obtain ⟨_, rfl⟩ := trP q1
  obtain ⟨lls, c, hc, _, rfl⟩ := trS q2
  obtain rfl := conc_bool' q3
  obtain ⟨l4, k4, B4⟩ := trC hR ld h4
  obtain ⟨_, _, q1, z1, rfl⟩ := concs_cons' k4
  obtain ⟨_, _, q2, z2, rfl⟩ := concs_cons' z1
  obtain ⟨_, _, q3, z3, rfl⟩ := concs_cons' z2
  obtain rfl := concs_nil' z3
  obtain ⟨llr, c4, _, hc4, rfl⟩ := trS q1
  obtain rfl := hc4 rfl
  obtain ⟨llm, rfl⟩ := trM q2
  obtain rfl := conc_bool' q3
  obtain ⟨l5, k5, B5⟩ := trC hR llr h5
  have k5 := concs_same (c := .string blank) (fun d hd => conc_str' hd) 100 k5
  subst k5
  have M6 := trO hR llm h6
  obtain ⟨rs, hrs⟩ := lls
  obtain ⟨cs, ds, B3, k3, _, k3'⟩ := obP_blk hR hrs h3
  have k3 := concs_flat (ls := [.bool false, .int .i64 0, .int .i64 0, .int .i64 0]) (fun l hl => by
    obtain ⟨_, _, q1, z1, rfl⟩ := concs_cons' hl
    obtain ⟨_, _, q2, z2, rfl⟩ := concs_cons' z1
    obtain ⟨_, _, q3, z3, rfl⟩ := concs_cons' z2
    obtain ⟨_, _, q4, z4, rfl⟩ := concs_cons' z3
    obtain rfl := concs_nil' z4
    rw [conc_bool' q1, conc_int' q2, conc_int' q3, conc_int' q4]) 11 k3
  rw [← trB_of hrs] at B3
  refine ⟨B1, lg, ld, ⟨rs, hrs⟩, llr, llm, fun S sg sd ss sr sm => ?_⟩
  have hD : (List.replicate 100 blank).length = 100 := List.length_replicate
  have hL : (List.replicate 11 noEnt).length = 11 := List.length_replicate
  refine ⟨fun x => x = trB E d ∨ x = trB E r ∨ x = trB E m, trB E s, c, List.replicate 11 noEnt, List.replicate 100 blank, ⟨?_, ⟨cs, B3, ?_⟩, ⟨trB E r, trB E m, ?_, ?_, .inl rfl, .inr (.inl rfl), .inr (.inr rfl), .map [], Go.Joins.ownsMap_empty M6, Go.Maps.isMap_empty⟩, ?_, ?_, ?_, sg, ss, ?_, ?_, ?_, ?_, ?_⟩, ⟨(fun j f hf => by cases hf), fun j e _ he => ?_⟩, hL, Nat.zero_le _⟩
  · rw [hL]; exact B2
  · intro i e he kk u hu
    rw [List.getElem?_replicate] at he
    split at he
    · rename_i hi
      cases he
      have hk4 : kk < 4 := (List.getElem?_eq_some_iff.1 hu).1
      refine k3' _ _ ?_
      rw [k3]
      have := flat_get [Value.bool false, .int .i64 0, .int .i64 0, .int .i64 0] 11 i kk hi hk4
      exact this.trans hu
    · cases he
  · rw [hD]; exact B4
  · have : (strs (List.replicate 100 blank)) = List.replicate 100 (.string blank) := by unfold strs; rw [List.map_replicate]
    rw [this]
    exact B5
  · rintro x (rfl | rfl | rfl) <;> assumption
  · rintro (q | q | q)
    · exact B2.ne_ B4 (by decide) q
    · exact B2.ne_ B5 (by decide) q
    · exact mapNe' B2 M6 q
  · rintro (q | q | q)
    · exact B3.ne_ B4 (by decide) q
    · exact B3.ne_ B5 (by decide) q
    · exact mapNe' B3 M6 q
  · rw [hL]; omega
  · rw [hL]; omega
  · rw [hL, hD]; omega
  · rw [hD]; omega
  · intro s hs
    rw [List.mem_replicate] at hs
    rw [hs.2]
    rfl
  · rw [List.getElem?_replicate] at he
    split at he
    · cases he; rfl
    · cases he
end
/-- What a new array is. -/
structure IsNew (x : X) : Prop where
  G : x.G = ⟨0, 1, 2, 3, 1, 1, -1, false, -1⟩
  L : x.L = []
  N : x.N = 0
  f : x.f = fun _ => 0
  q : x.q = fun _ => 0
  gone : x.gone = 0
  dn : x.dn = fun _ => false
  ls : x.ls = fun _ => false
  C : x.C = fun _ => []
set_option maxRecDepth 100000 in
theorem aNew_ok (w : World) : Calls Tryz.prog 12 #[.int .i64 5, .int .i64 100, .int .i64 4, .int .i64 1] w fun e w' => ∃ T x, e = .returned (.pointer (some ⟨x.a, 0, none⟩)) ∧ Arr w.heap.size T w' x ∧ IsNew x ∧ Below w.heap.size w w' := by
  have hrun := nw_run
  cases hr : nwRun with
  | none => rw [hr] at hrun; cases hrun
  | some rr =>
    obtain ⟨v, σ⟩ := rr
    rw [hr] at hrun
    unfold nwRun at hr
    obtain ⟨a, sg, gm, p1, p2, p3, p4, p5, p6, b1, b2, m6, r, k, ex, V, G, D, S, R, M, K, XX, hk⟩ : ∃ a sg gm p1 p2 p3 p4 p5 p6 b1 b2 m6 r k e V G D S R M K X, nwOK v σ a sg gm p1 p2 p3 p4 p5 p6 b1 b2 m6 r k e V G D S R M K X = true := ⟨_, _, _, _, _, _, _, _, _, _, _, _, _, _, _, _, _, _, _, _, _, _, _, hrun⟩
    clear hrun
    unfold nwOK at hk
    simp only [Bool.and_eq_true] at hk
    obtain ⟨c0, c1, c2, c3, c4, c5, c6, c7, c8, c9, c10, c11, c12, hn, hl⟩ := hk
    have hn := nodB_ok _ hn
    have hl : ∀ p ∈ tagsOf a sg gm p1 p2 p4 p6 b1 b2 m6 r V G D S R M, ∃ o, σ.heap.get p.1 = some o := fun p hp => by
      rw [List.all_eq_true] at hl
      exact Option.isSome_iff_exists.1 (hl p hp)
    have hR : Rel Tryz.prog (fun _ => none) ⟨.e, 0⟩ w := ⟨(fun b o hb r hr => by cases hr), (fun b b' o o' r r' _ _ hr => by cases hr), (fun b r hr => by cases hr), (fun b o hb => by rw [show (⟨.e, 0⟩ : St).heap = Tr.e from rfl, Tr.get_e] at hb; cases hb)⟩
    have hA : concs (fun _ => none) [.int .i64 5, .int .i64 100, .int .i64 4, .int .i64 1] = some [.int .i64 5, .int .i64 100, .int .i64 4, .int .i64 1] := by
      simp only [concs, conc]
      rfl
    refine (top_call 200 12 _ _ v σ _ w _ hr hR hA).2.mono ?_
    clear hr hR hA
    rintro e w' ⟨E, c, rfl, hc, hs⟩
    have hR := hs.rel
    have hbel : Below w.heap.size w w' := ⟨hs.os, hs.tape, hs.output, hs.size, fun k hk => hs.frame k hk fun ⟨b, o, r, hb, hr, he⟩ => by cases hr⟩
    have hlow : ∀ b, Liv E b → (∃ o, σ.heap.get b = some o) → w.heap.size ≤ trB E b ∧ trB E b < w'.heap.size := fun b ⟨r, hr⟩ ⟨o, ho⟩ => by
      rw [trB_of hr]
      refine ⟨?_, (hR.rng b r hr).2⟩
      rcases hs.own r.1 ⟨b, o, r, ho, hr, rfl⟩ with ⟨b', o', r', hb', hr', _⟩ | h
      · cases hr'
      · exact h
    have htag : ∀ b t, (b, t) ∈ tagsOf a sg gm p1 p2 p4 p6 b1 b2 m6 r V G D S R M → Liv E b → tagOf E (tagsOf a sg gm p1 p2 p4 p6 b1 b2 m6 r V G D S R M) (trB E b) = t := fun b t hm ⟨q, hq⟩ => by
      rw [trB_of hq]
      exact tag_of hR hn hl hm hq
    have hfit : Fits (tagOf E (tagsOf a sg gm p1 p2 p4 p6 b1 b2 m6 r V G D S R M)) w.heap.size w' := ⟨hs.size, fun k hk => by
      obtain ⟨p, hp, q, hq, rfl⟩ := tag_back hk
      have := hlow p.1 ⟨q, hq⟩ (hl p hp)
      rw [trB_of hq] at this
      exact this⟩
    have hV : ∀ i j, i < 5 → j < 5 → trB E (V i) = trB E (V j) → Liv E (V i) → Liv E (V j) → i = j := fun i j hi hj he ⟨q, hq⟩ ⟨q', hq'⟩ => by
      have hm : ∀ i, i < 5 → (V i, 9) ∈ tagsOf a sg gm p1 p2 p4 p6 b1 b2 m6 r V G D S R M := fun i hi => List.mem_append_right _ (List.mem_flatMap.2 ⟨i, List.mem_range.2 hi, List.mem_cons_self⟩)
      rw [trB_of hq, trB_of hq'] at he
      obtain ⟨o, ho⟩ := hl _ (hm i hi)
      obtain ⟨o', ho'⟩ := hl _ (hm j hj)
      have hv := hR.inj _ _ _ _ _ _ ho ho' hq hq' he
      have hg : ∀ i, i < 5 → ((tagsOf a sg gm p1 p2 p4 p6 b1 b2 m6 r V G D S R M).map (·.1))[11 + 6 * i]? = some (V i) := fun i hi => by
        match i, hi with
        | 0, _ => rfl
        | 1, _ => rfl
        | 2, _ => rfl
        | 3, _ => rfl
        | 4, _ => rfl
      have := (List.getElem?_inj (List.getElem?_eq_some_iff.1 (hg i hi)).1 hn).1 ((hg i hi).trans ((congrArg some hv).trans (hg j hj).symm))
      omega
    clear hs hn hl hlow
    have hin : ∀ p, p ∈ [(p1, 1), (b1, 1), (b2, 1), (p2, 2), (p4, 4), (p6, 6), (m6, 6), (gm, 7), (a, 8), (sg, 9), (r, 9)] → p ∈ tagsOf a sg gm p1 p2 p4 p6 b1 b2 m6 r V G D S R M := fun p hp => List.mem_append_left _ hp
    have hin5 : ∀ i, i < 5 → ∀ p, p ∈ [(V i, 9), (G i, i + 11), (D i, i + 11), (S i, i + 11), (R i, i + 11), (M i, i + 11)] → p ∈ tagsOf a sg gm p1 p2 p4 p6 b1 b2 m6 r V G D S R M := fun i hi p hp => List.mem_append_right _ (List.mem_flatMap.2 ⟨i, List.mem_range.2 hi, hp⟩)
    generalize tagsOf a sg gm p1 p2 p4 p6 b1 b2 m6 r V G D S R M = tags at hin hin5 htag hfit
    rw [vEq_eq _ _ c0] at hc
    obtain ⟨la, rfl⟩ := trP hc
    obtain ⟨l1, k1, B1⟩ := trC hR la c1
    obtain ⟨_, _, q1, z1, rfl⟩ := concs_cons' k1
    obtain ⟨_, _, q2, z2, rfl⟩ := concs_cons' z1
    obtain ⟨_, _, q3, z3, rfl⟩ := concs_cons' z2
    obtain ⟨lsg, rfl⟩ := trP q1
    obtain ⟨lgm, rfl⟩ := trP q2
    obtain rfl := conc_int' q3
    have z3 := concs_same (c := .int .i64 0) (fun d hd => conc_int' hd) 16 z3
    subst z3
    obtain ⟨l2, k2, B2⟩ := trC hR lgm c2
    obtain ⟨_, _, q1, z1, rfl⟩ := concs_cons' k2
    obtain ⟨_, _, q2, z2, rfl⟩ := concs_cons' z1
    obtain ⟨_, _, q3, z3, rfl⟩ := concs_cons' z2
    obtain ⟨_, _, q4, z4, rfl⟩ := concs_cons' z3
    obtain ⟨_, _, q5, z5, rfl⟩ := concs_cons' z4
    obtain ⟨_, _, q6, z6, rfl⟩ := concs_cons' z5
    obtain ⟨_, _, q7, z7, rfl⟩ := concs_cons' z6
    obtain rfl := concs_nil' z7
    obtain ⟨lp1, rfl⟩ := trP q1
    obtain ⟨lp2, rfl⟩ := trP q2
    obtain ⟨lp3, rfl⟩ := trP q3
    obtain ⟨lp4, rfl⟩ := trP q4
    obtain ⟨lp5, rfl⟩ := trP q5
    obtain ⟨lp6, rfl⟩ := trP q6
    obtain rfl := conc_int' q7
    obtain ⟨l3, k3, B3⟩ := trC hR lp1 c3
    obtain ⟨_, _, q1, z1, rfl⟩ := concs_cons' k3
    obtain ⟨_, _, q2, z2, rfl⟩ := concs_cons' z1
    obtain ⟨_, _, q3, z3, rfl⟩ := concs_cons' z2
    obtain ⟨_, _, q4, z4, rfl⟩ := concs_cons' z3
    obtain ⟨_, _, q5, z5, rfl⟩ := concs_cons' z4
    obtain ⟨_, _, q6, z6, rfl⟩ := concs_cons' z5
    obtain rfl := concs_nil' z6
    obtain ⟨lb1, _, _, h1, rfl⟩ := trS q1
    obtain rfl := h1 rfl
    obtain ⟨lb2, _, _, h1, rfl⟩ := trS q2
    obtain rfl := h1 rfl
    obtain rfl := conc_int' q3
    obtain rfl := conc_int' q4
    obtain rfl := conc_bool' q5
    obtain rfl := conc_int' q6
    obtain ⟨l4, k4, B4⟩ := trC hR lb1 c4
    obtain ⟨_, _, q1, z1, rfl⟩ := concs_cons' k4
    obtain ⟨_, _, q2, z2, rfl⟩ := concs_cons' z1
    obtain ⟨_, _, q3, z3, rfl⟩ := concs_cons' z2
    obtain ⟨_, _, q4, z4, rfl⟩ := concs_cons' z3
    obtain rfl := concs_nil' z4
    obtain rfl := conc_int' q1
    obtain rfl := conc_int' q2
    obtain rfl := conc_int' q3
    obtain rfl := conc_int' q4
    obtain ⟨l5, k5, B5⟩ := trC hR lb2 c5
    obtain ⟨_, _, q1, z1, rfl⟩ := concs_cons' k5
    obtain rfl := concs_nil' z1
    obtain rfl := conc_int' q1
    obtain ⟨l6, k6, B6⟩ := trC hR lp2 c6
    obtain ⟨_, _, q1, z1, rfl⟩ := concs_cons' k6
    obtain ⟨_, _, q2, z2, rfl⟩ := concs_cons' z1
    obtain rfl := concs_nil' z2
    obtain rfl := conc_nil' q1
    obtain rfl := conc_int' q2
    obtain ⟨l7, k7, B7⟩ := trC hR lp4 c7
    obtain ⟨_, _, q1, z1, rfl⟩ := concs_cons' k7
    obtain rfl := concs_nil' z1
    obtain rfl := conc_nil' q1
    obtain ⟨l8, k8, B8⟩ := trC hR lp6 c8
    obtain ⟨_, _, q1, z1, rfl⟩ := concs_cons' k8
    obtain ⟨_, _, q2, z2, rfl⟩ := concs_cons' z1
    obtain rfl := concs_nil' z2
    obtain rfl := conc_int' q1
    obtain ⟨lm6, rfl⟩ := trM q2
    have M6 := trO hR lm6 c9
    obtain ⟨l10, k10, B10⟩ := trC hR lsg c10
    obtain ⟨_, _, q1, z1, rfl⟩ := concs_cons' k10
    obtain rfl := concs_nil' z1
    obtain ⟨lr, cr, _, _, rfl⟩ := trS q1
    obtain ⟨rr, hrr⟩ := lr
    obtain ⟨cs, ds, B11, k11, _, k11'⟩ := obP_blk hR hrr c11
    rw [← trB_of hrr] at B11
    have h5 : ∀ i, i < 5 → cs[i]? = some (.pointer (some ⟨trB E (V i), 0, none⟩)) ∧ Liv E (V i) := fun i hi => by
      obtain ⟨d, hd, hv⟩ := concs_get' (i := i) (u := .ptr (some (V i, 0))) k11 (by rw [List.getElem?_map, List.getElem?_range hi]; rfl)
      obtain ⟨h1, rfl⟩ := trP hv
      exact ⟨k11' _ _ hd, h1⟩
    have hS : ∀ i, i < 5 → _ := fun i hi => srv_read hR (by rw [List.all_eq_true] at c12; exact c12 i (List.mem_range.2 hi)) (h5 i hi).2
    clear c0 c1 c2 c3 c4 c5 c6 c7 c8 c9 c10 c11 c12
    refine ⟨tagOf E tags, ⟨trB E a, trB E sg, trB E gm, trB E p1, trB E p2, trB E p4, trB E p6, fun i => trB E (G i), fun i => trB E (D i), ⟨0, 1, 2, 3, 1, 1, -1, false, -1⟩, [], 0, fun _ => 0, fun _ => 0, 0, fun _ => false, fun _ => false, fun _ => []⟩, rfl, ⟨hfit, fun i hi => ?_⟩, ⟨rfl, rfl, rfl, rfl, rfl, rfl, rfl, rfl, rfl⟩, hbel⟩
    unfold part
    split
    · exact ⟨trB E b1, trB E b2, B3, B4, B5, htag _ _ (hin _ (by simp)) lp1, htag _ _ (hin _ (by simp)) lb1, htag _ _ (hin _ (by simp)) lb2⟩
    · exact ⟨[], ⟨none, 0, B6, ⟨by simp [F.rowS], .inl ⟨rfl, rfl⟩⟩, htag _ _ (hin _ (by simp)) lp2, (fun ad h => by cases h), (fun s h => by cases h), List.nodup_nil⟩, rfl⟩
    · exact ⟨none, 0, 0, B7, htag _ _ (hin _ (by simp)) lp4, Nat.le_refl _, .inl ⟨rfl, rfl, rfl⟩⟩
    · exact ⟨trB E m6, fun _ => none, B8, htag _ _ (hin _ (by simp)) lp6, htag _ _ (hin _ (by simp)) lm6, ⟨.map [], Go.Joins.ownsMap_empty M6, Go.Maps.isMap_empty, fun key hk => rfl⟩, fun k => ⟨none, 0, 0, rfl, by omega, .inl ⟨rfl, rfl, rfl⟩⟩, fun k k' r q n c q' n' c' h => by cases h⟩
    · exact ⟨htag _ _ (hin _ (by simp)) lgm, trB E p3, trB E p5, B2⟩
    · refine ⟨htag _ _ (hin _ (by simp)) la, _, B1, rfl, rfl, rfl, rfl, fun i hi => ?_⟩
      rw [List.getElem?_toArray]
      show ([Value.pointer _, .pointer _, .int .i64 4] ++ List.replicate 16 (Value.int .i64 0))[3 + i]? = _
      rw [List.getElem?_append_right (by simp)]
      simp only [List.length_cons, List.length_nil, List.getElem?_replicate]
      rw [if_pos (by omega)]
    · refine ⟨trB E r, cr, cs, fun i => trB E (V i), B10, B11, htag _ _ (hin _ (by simp)) lsg, htag _ _ (hin _ (by simp)) ⟨rr, hrr⟩, fun i hi => ⟨(h5 i hi).1, (hS i hi).1, htag _ _ (hin5 i hi _ (by simp)) (h5 i hi).2⟩, fun i j hi hj he => ?_⟩
      exact hV i j hi hj he (h5 i hi).2 (h5 j hj).2
    · rename_i n
      intro hn5
      obtain ⟨_, lg, ld, ls, lr, lm, hst⟩ := hS n hn5
      exact hst _ (htag _ _ (hin5 n hn5 _ (by simp)) lg) (htag _ _ (hin5 n hn5 _ (by simp)) ld) (htag _ _ (hin5 n hn5 _ (by simp)) ls) (htag _ _ (hin5 n hn5 _ (by simp)) lr) (htag _ _ (hin5 n hn5 _ (by simp)) lm)
    · trivial
end Go.Proofs.YtopbojifllnckaaGreatDoor
namespace Go.Proofs.YtopbojifllnckaaGreatDoor
open Go.RowKit
attribute [local irreducible] wpQuiet
/-- Which of stripe j's fragments server n bears. -/
def ixn (n j : Nat) : Nat := (n + 4 - j % 4) % 4
theorem ixn_lt (n j : Nat) : ixn n j < 4 := by unfold ixn; omega
theorem ixn_iff {n i : Nat} (j : Nat) (hn : n < 4) (hi : i < 4) : (i + j) % 4 = n ↔ i = ixn n j := by unfold ixn; omega
theorem ixn_at {n : Nat} (j : Nat) (hn : n < 4) : (ixn n j + j) % 4 = n := (ixn_iff j hn (ixn_lt n j)).2 rfl
theorem on_base (st : Int) (ln j i : Nat) : onN ⟨st, ln, [0, 1, 2, 3]⟩ j i = (i + j) % 4 := by
  unfold onN
  have h : (i + j) % 4 < 4 := by omega
  generalize (i + j) % 4 = c at h
  obtain rfl | rfl | rfl | rfl : c = 0 ∨ c = 1 ∨ c = 2 ∨ c = 3 := by omega
  all_goals rfl
/-- What one Write gives each server. -/
theorem putC_at (dn : Nat → Bool) (C : Nat → List Fr) (st : Int) (ln j : Nat) (F : List ByteArray) (n : Nat) : ∀ m, m ≤ 4 → putC dn C ⟨st, ln, [0, 1, 2, 3]⟩ j F m n = if n < 4 ∧ ixn n j < m ∧ dn n = false then C n ++ [⟨j, ixn n j, F.getD (ixn n j) ⟨#[]⟩⟩] else C n
  | 0, _ => by rw [if_neg (by omega)]; rfl
  | m + 1, hm => by
    have ih := putC_at dn C st ln j F n m (by omega)
    unfold putC
    rw [on_base]
    have hc : (m + j) % 4 < 4 := by omega
    have hiff := fun (hn : n < 4) => ixn_iff (n := n) (i := m) j hn (by omega)
    by_cases e : n = (m + j) % 4
    · have hx : ixn n j = m := ((hiff (by omega)).1 e.symm).symm
      rw [if_neg (by omega)] at ih
      rw [← e]
      by_cases hd : dn n = true
      · rw [if_pos hd, if_neg (by rw [hd]; simp), ih]
      · have hd2 : dn n = false := by simpa using hd
        rw [if_neg hd, upd_same, ih, if_pos ⟨by omega, by omega, hd2⟩, hx]
    · have hx : n < 4 → ixn n j ≠ m := fun hn hx => e ((hiff hn).2 hx.symm).symm
      have hh : (n < 4 ∧ ixn n j < m + 1 ∧ dn n = false) ↔ (n < 4 ∧ ixn n j < m ∧ dn n = false) := by
        constructor
        · rintro ⟨h1, h2, h3⟩
          exact ⟨h1, by have := hx h1; omega, h3⟩
        · rintro ⟨h1, h2, h3⟩
          exact ⟨h1, by omega, h3⟩
      have hr : (if dn ((m + j) % 4) = true then putC dn C ⟨st, ln, [0, 1, 2, 3]⟩ j F m else upd (putC dn C ⟨st, ln, [0, 1, 2, 3]⟩ j F m) ((m + j) % 4) (putC dn C ⟨st, ln, [0, 1, 2, 3]⟩ j F m ((m + j) % 4) ++ [⟨j, m, F.getD m ⟨#[]⟩⟩])) n = putC dn C ⟨st, ln, [0, 1, 2, 3]⟩ j F m n := by
        split
        · rfl
        · rw [upd_other _ _ e]
      rw [hr, ih]
      simp only [hh]
/-- Only server k is down: at most one fragment is refused. -/
theorem refu_at {dn : Nat → Bool} {k : Nat} (hk : k < 4) (hd : ∀ n, n ≠ k → dn n = false) (st : Int) (ln j : Nat) : ∀ m, m ≤ 4 → refu dn ⟨st, ln, [0, 1, 2, 3]⟩ j m ≤ if ixn k j < m then 1 else 0
  | 0, _ => by simp [refu]
  | m + 1, hm => by
    have ih := refu_at hk hd st ln j m (by omega)
    unfold refu
    rw [on_base]
    by_cases e : (m + j) % 4 = k
    · have hx := (ixn_iff (i := m) j hk (by omega)).1 e
      rw [if_neg (by omega)] at ih
      rw [if_pos (by omega : ixn k j < m + 1)]
      split <;> omega
    · rw [hd _ e, if_neg (by decide)]
      refine Nat.le_trans ih ?_
      by_cases h1 : ixn k j < m
      · rw [if_pos h1, if_pos (by omega)]; exact Nat.le_refl _
      · rw [if_neg h1]; exact Nat.zero_le _
/-- An array when the texts S were written: server k may have been down. -/
structure WI (x : X) (k : Nat) (S : List ByteArray) : Prop where
  G : x.G = ⟨0, 1, 2, 3, 1, 1, -1, false, -1⟩
  L : x.L = S.map (strOf [0, 1, 2, 3])
  six : S.length ≤ 6
  N : x.N ≤ 3 * S.length
  fq : x.f = x.q
  q : ∀ c, 0 ≤ x.q c ∧ x.q c ≤ 2 * S.length
  dn : ∀ n, n ≠ k → x.dn n = false
  ls : ∀ n, x.ls n = false
  sz : ∀ s ∈ S, 1 ≤ s.size ∧ s.size ≤ 1536
  C : ∀ n, InOrder (x.C n) ∧ (x.C n).length ≤ S.length ∧ ∀ f ∈ x.C n, f.st < S.length ∧ f.ix < 4 ∧ (f.ix + f.st) % 4 = n
  look : ∀ j s i, S[j]? = some s → i < 4 → (i + j) % 4 ≠ k → look (x.C ((i + j) % 4)) j i = some ((fragsS s).getD i ⟨#[]⟩)
section
variable {x : X} {k : Nat} {S : List ByteArray}
theorem WI.new (h : IsNew x) (k : Nat) : WI x k [] := by
  refine ⟨h.G, by rw [h.L]; rfl, by simp, by rw [h.N]; simp, by rw [h.f, h.q], fun c => by rw [h.q]; simp, fun n _ => by rw [h.dn], fun n => by rw [h.ls], (fun s hs => by cases hs), fun n => ?_, fun j s i hj => by simp at hj⟩
  rw [h.C]
  exact ⟨fun k f g hf => by simp at hf, by simp, fun f hf => by cases hf⟩
theorem WI.down (h : WI x k S) (b : Bool) : WI { x with dn := upd x.dn k b } k S :=
  ⟨h.G, h.L, h.six, h.N, h.fq, h.q, fun n hn => by show upd x.dn k b n = false; rw [upd_other _ _ hn]; exact h.dn n hn, h.ls, h.sz, h.C, h.look⟩
theorem WI.okQ (h : WI x k S) : OkQ x :=
  ⟨by have := h.N; have := h.six; omega, h.fq, fun c => (h.q c).1, fun c => by have := (h.q c).2; have := h.six; omega⟩
theorem WI.xs (h : WI x k S) : x.G.xs = [0, 1, 2, 3] := by rw [h.G]; rfl
theorem WI.len (h : WI x k S) : x.L.length = S.length := by rw [h.L, List.length_map]
theorem WI.okW (h : WI x k S) (hk : k < 4) (s : ByteArray) : OkW x ⟨1, s.size, x.G.xs⟩ := by
  refine ⟨by rw [h.G], by rw [h.xs]; decide, by rw [h.xs]; decide, by rw [h.len]; have := h.six; omega, fun n => by have := (h.C n).2.1; have := h.six; omega, fun n f hf => by rw [h.len]; have := ((h.C n).2.2 f hf).1; omega, h.ls, ?_⟩
  rw [h.xs]
  refine Nat.le_trans (refu_at hk h.dn 1 s.size x.L.length 4 (by omega)) ?_
  split <;> omega
theorem WI.write (h : WI x k S) (h5 : S.length ≤ 5) {s : ByteArray} (hs : 1 ≤ s.size ∧ s.size ≤ 1536) : WI (wrX x s) k (S ++ [s]) := by
  have hC : ∀ n, (wrX x s).C n = if n < 4 ∧ ixn n S.length < 4 ∧ x.dn n = false then x.C n ++ [⟨S.length, ixn n S.length, (fragsS s).getD (ixn n S.length) ⟨#[]⟩⟩] else x.C n := by
    intro n
    show putC x.dn x.C ⟨1, s.size, x.G.xs⟩ x.L.length (fragsS s) 4 n = _
    rw [h.xs, h.len]
    exact putC_at x.dn x.C 1 s.size S.length (fragsS s) n 4 (Nat.le_refl _)
  have hl : (S ++ [s]).length = S.length + 1 := by simp
  refine ⟨h.G, ?_, by omega, ?_, rfl, fun c => ?_, h.dn, h.ls, fun t ht => ?_, fun n => ?_, fun j t i hj hi hne => ?_⟩
  · show x.L ++ [⟨2, s.size, x.G.xs⟩] = _
    rw [h.L, h.xs, List.map_append]
    rfl
  · show x.N + 3 ≤ _
    have := h.N
    omega
  · show 0 ≤ nextQ (nextQ x.q (3 : Nat)) (3 : Nat) c ∧ nextQ (nextQ x.q (3 : Nat)) (3 : Nat) c ≤ _
    have h1 := h.q c
    have h2 := h.q (3 : Nat)
    rw [hl]
    unfold nextQ
    simp only
    split
    · simp only [if_true]; omega
    · omega
  · rw [List.mem_append, List.mem_singleton] at ht
    rcases ht with ht | rfl
    · exact h.sz t ht
    · exact hs
  · rw [hC, hl]
    obtain ⟨c1, c2, c3⟩ := h.C n
    split
    · rename_i hn
      refine ⟨c1.snoc fun g hg => (c3 g hg).1, by rw [List.length_append, List.length_singleton]; omega, fun f hf => ?_⟩
      rw [List.mem_append, List.mem_singleton] at hf
      rcases hf with hf | rfl
      · obtain ⟨d1, d2, d3⟩ := c3 f hf
        exact ⟨by omega, d2, d3⟩
      · exact ⟨by show S.length < S.length + 1; omega, ixn_lt _ _, ixn_at _ hn.1⟩
    · exact ⟨c1, by omega, fun f hf => by
        obtain ⟨d1, d2, d3⟩ := c3 f hf
        exact ⟨by omega, d2, d3⟩⟩
  · rw [hC]
    by_cases hjl : j < S.length
    · rw [List.getElem?_append_left hjl] at hj
      have := h.look j t i hj hi hne
      split
      · rw [look_other _ _ (by omega)]
        exact this
      · exact this
    · have hje : j = S.length := by
        have := (List.getElem?_eq_some_iff.1 hj).1
        omega
      subst hje
      rw [List.getElem?_append_right (Nat.le_refl _), Nat.sub_self] at hj
      cases hj
      have hi2 : ixn ((i + S.length) % 4) S.length = i := ((ixn_iff (n := (i + S.length) % 4) S.length (by omega) hi).1 rfl).symm
      rw [if_pos ⟨by omega, ixn_lt _ _, h.dn _ hne⟩, hi2]
      refine look_append _ _ _ _ ?_
      unfold Go.Proofs.YtopbojifllnckaaGreatDoor.look
      rw [Option.map_eq_none_iff, List.find?_eq_none]
      intro f hf
      have := ((h.C _).2.2 f hf).1
      simp [isAt]
      omega
end
/-- The group when the spare stands for server k. -/
def xsK (k : Nat) : List Int := ([0, 1, 2, 3] : List Int).set k 4
theorem four_cases {k : Nat} (hk : k < 4) : k = 0 ∨ k = 1 ∨ k = 2 ∨ k = 3 := by omega
theorem okK {k : Nat} (hk : k < 4) (s : ByteArray) : OkS (strOf (xsK k) s) := by
  have h : (xsK k).length = 4 ∧ grpB (xsK k) = true ∧ ∀ y ∈ xsK k, 0 ≤ y ∧ y < 5 := by
    rcases four_cases hk with rfl | rfl | rfl | rfl
    all_goals decide
  exact ⟨h.1, h.2.1, h.2.2⟩
theorem on_K {k : Nat} (hk : k < 4) (s : ByteArray) (j i : Nat) : onN (strOf (xsK k) s) j i = if (i + j) % 4 = k then 4 else (i + j) % 4 := by
  unfold onN strOf
  have h : (i + j) % 4 < 4 := by omega
  generalize (i + j) % 4 = c at h
  rcases four_cases hk with rfl | rfl | rfl | rfl <;> rcases four_cases h with rfl | rfl | rfl | rfl <;> rfl
theorem at_K {k : Nat} (hk : k < 4) (j : Nat) : atI (rowR (xsK k) j) 4 = ixn k j := by
  have hl : (xsK k).length = 4 := by unfold xsK; simp
  have h1 : rowR (xsK k) j = rowR (xsK k) (j % 4) := by
    unfold rowR
    rw [hl]
    refine List.map_congr_left fun i _ => ?_
    rw [show (i + j) % 4 = (i + j % 4) % 4 by omega]
  have h2 : ixn k j = ixn k (j % 4) := by unfold ixn; omega
  rw [h1, h2]
  have h : j % 4 < 4 := by omega
  generalize j % 4 = c at h
  rcases four_cases hk with rfl | rfl | rfl | rfl <;> rcases four_cases h with rfl | rfl | rfl | rfl <;> decide
theorem hall_K {k : Nat} (hk : k < 4) (S : List ByteArray) : ∀ s ∈ S.map (strOf [0, 1, 2, 3]), s.st ≠ 3 ∧ (k : Int) ∈ s.xs ∧ atI s.xs k = k ∧ s.xs.length = 4 ∧ (4 : Int) ∉ s.xs := by
  intro s hs
  obtain ⟨b, _, rfl⟩ := List.mem_map.1 hs
  refine ⟨by show (2 : Int) ≠ 3; decide, ?_⟩
  show (k : Int) ∈ ([0, 1, 2, 3] : List Int) ∧ atI [0, 1, 2, 3] k = k ∧ ([0, 1, 2, 3] : List Int).length = 4 ∧ (4 : Int) ∉ ([0, 1, 2, 3] : List Int)
  rcases four_cases hk with rfl | rfl | rfl | rfl
  all_goals decide
/-- A disk is lost, the spare stands for it. -/
theorem WI.rb {x y : X} {k : Nat} {S : List ByteArray} (h : WI x k S) (hk : k < 4) (hd : ∀ n, x.dn n = false) (hL : y.L = x.L.map (mvS k)) (hC : y.C = x.C) (hdn : y.dn = x.dn) (hls : y.ls = upd x.ls k true) : Rb y (xsK k) (ixn k) S 0 := by
  have h4 : x.C 4 = [] := List.eq_nil_iff_forall_not_mem.2 fun f hf => by have := ((h.C 4).2.2 f hf).2.2; omega
  have hyL : y.L = S.map (strOf (xsK k)) := by
    rw [hL, h.L, List.map_map]
    rfl
  have hl : ∀ n, n ≠ k → y.ls n = false := fun n hn => by rw [hls, upd_other _ _ hn]; exact h.ls n
  have hy : ∀ n, y.dn n = false := fun n => by rw [hdn]; exact hd n
  refine ⟨hyL, h.six, Nat.zero_le _, okK hk, ixn_lt k, at_K hk, fun s j i hi => ?_, ⟨hy 4, hl 4 (by omega)⟩, ⟨by rw [hC, h4]; rfl, fun f hf => by rw [hC, h4] at hf; cases hf⟩, fun j s hj => ?_, fun n hn => ?_⟩
  · rw [on_K hk, ← ixn_iff j hk hi]
    split
    · simp_all
    · constructor
      · omega
      · omega
  · rw [if_neg (by omega)]
    have hs := h.sz s (List.mem_of_getElem? hj)
    refine ⟨rfl, hs.1, hs.2, fun i hi hne => ?_, fun i hi => ?_⟩
    · have hne2 : (i + j) % 4 ≠ k := fun e => hne (by rw [(ixn_iff j hk hi).1 e])
      unfold fragX
      rw [on_K hk, if_neg hne2, hy, hl _ hne2, hC]
      unfold srvGet
      rw [if_neg (by decide), h.look j s i hj hi hne2]
      rfl
    · injection hi with hi
      subst hi
      refine ⟨ixn_lt _ _, ?_⟩
      unfold fragX
      rw [on_K hk, if_pos (ixn_at j hk), hy, hl 4 (by omega), hC, h4]
      show (7 : Nat) ≠ 0
      decide
  · by_cases e : n = k
    · have e1 : lstX y n = [] := by unfold lstX; rw [hls, e, upd_same]; rfl
      rw [e1]
      exact ⟨by simp, fun k f g hf => by simp at hf, fun f hf => by cases hf⟩
    · have e1 : lstX y n = x.C n := by unfold lstX; rw [hl n e, hC]; rfl
      rw [e1]
      obtain ⟨c1, c2, c3⟩ := h.C n
      refine ⟨by have := h.six; omega, c1, fun f hf => ?_⟩
      obtain ⟨d1, d2, d3⟩ := c3 f hf
      refine ⟨strOf (xsK k) S[f.st], ?_, rfl, okK hk _, by have := h.six; omega, d2, ?_⟩
      · rw [hyL, List.getElem?_map, List.getElem?_eq_getElem d1]
        rfl
      · rw [on_K hk, d3, if_neg e]
/-- What a rebuild says of an array depends on a part of it alone. -/
theorem Rb.of {x y : X} {xs : List Int} {ix : Nat → Nat} {S : List ByteArray} {t : Nat} (h : Rb x xs ix S t) (hL : y.L = x.L) (hC : y.C = x.C) (hdn : y.dn = x.dn) (hls : y.ls = x.ls) : Rb y xs ix S t := by
  have hf : ∀ t j i, fragX y t j i = fragX x t j i := fun t j i => by unfold fragX; rw [hC, hdn, hls]
  refine ⟨hL.trans h.L, h.six, h.tm, h.ok, h.ix4, h.at4, h.on4, by rw [hdn, hls]; exact h.up, by rw [hC]; exact h.C4, fun j s hj => ?_, fun n hn => ?_⟩
  · have hg := h.good j s hj
    exact ⟨hg.ln, hg.s1, hg.s2, fun i hi hb => by rw [hf]; exact hg.here i hi hb, fun i hi => by rw [hf]; exact hg.gone i hi⟩
  · have e : lstX y n = lstX x n := by unfold lstX; rw [hC, hls]
    rw [e, hL]
    exact h.ol n hn
end Go.Proofs.YtopbojifllnckaaGreatDoor
