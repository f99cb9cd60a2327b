/- append, copy, store: the evaluator's and the model's. -/
import Derived.Deep.AppendSrc
import Derived.Test.YtopbojifllnckaaGreatDoorG06
namespace Go.Proofs.YtopbojifllnckaaGreatDoor
noncomputable def allOne : List AV → Bool
  | [] => true
  | v :: vs => v.one && allOne vs
theorem allOne_conc {E : Env} : ∀ {vs : List AV} {cs : List Value}, allOne vs = true → concs E vs = some cs → ∀ u ∈ cs, u.oneCell' = true
  | [], cs, _, hc, u, hu => by rw [concs_nil hc] at hu; cases hu
  | v :: vs, cs, h, hc, u, hu => by
    obtain ⟨c, ds, rfl, h1, h2⟩ := concs_cons hc
    unfold allOne at h
    rw [Bool.and_eq_true] at h
    cases hu with
    | head => exact one_conc h.1 h1
    | tail _ hm => exact allOne_conc h.2 h2 u hm
noncomputable def byteAV : List UInt8 → List AV
  | [] => []
  | b :: l => .int .u8 b.toNat :: byteAV l
theorem byteAV_conc (E : Env) : ∀ (l : List UInt8), concs E (byteAV l) = some (byteCells ⟨l.toArray⟩)
  | [] => rfl
  | b :: l => by
    have e : byteCells ⟨(b :: l).toArray⟩ = .int .u8 b.toNat :: byteCells ⟨l.toArray⟩ := by simp [byteCells]
    rw [e]
    exact concs_cons_mk rfl (byteAV_conc E l)
section
variable (P : Program)
noncomputable def srcA (σ : St) (t : TypeId) (size : Nat) (x : AV) : Option (Nat × List AV) :=
  match P.underlying t, x with
  | some (.slice _), .slc (some (b, o)) m _ _ => match σ.heap.get b with
    | some ob => match rdN ob o (m * size) with
      | some vs => bif allOne vs then some (m, vs) else none
      | none => none
    | none => none
  | some (.slice _), .slc none 0 _ _ => some (0, [])
  | some (.slice _), .send _ _ _ _ => some (0, [])
  | some .string, .str l => bif Nat.beq size 1 then some (l.length, byteAV l) else none
  | _, _ => none
/-- A new row, grown. -/
noncomputable def grownAO (e : TypeId) (n : Nat) (vs : List AV) : Option AO := bif Nat.blt vs.length 60000000 && Nat.beq vs.length n then some (.cells n (trL vs 0 .e) e none true) else none
noncomputable def appA (σ : St) (sT xT : TypeId) (s x : AV) : Option (AV × St) :=
  match P.underlying sT, s with
  | some (.slice e), .slc p n c ex => match P.info? e with
    | some i => match i.zero with
      | some z => match srcA P σ xT i.size x with
        | some (k, vs) =>
          bif Nat.ble (n + k) c then
            (match p with
            | some (b, o) => match σ.heap.get b with
              | some ob => bif Tr.inB b then (match wrN ob (o + n * i.size) vs with
                | some ob' => some (.slc p (n + k) c ex, σ.chg b ob')
                | none => none) else none
              | none => none
            | none => bif Nat.beq k 0 then some (.slc none n c ex, σ) else none)
          else bif Nat.ble ((n + k) * i.bytes) 1000000000000 && (Nat.ble (n + k) 1000000000000 && (Nat.ble i.bytes 100000 && (Nat.beq z.cells.size i.size && Tr.inB σ.next))) then
            (match p with
            | none => bif Nat.beq n 0 && Nat.beq c 0 then (match grownAO e (k * i.size) vs with
              | some ob => some (.slc (some (σ.next, 0)) k k false, σ.add ob)
              | none => none) else none
            | some (b, o) => match σ.heap.get b with
              | some (.cells m t te d lo) => match rdN (.cells m t te d lo) o (n * i.size) with
                | some olds => bif allOne olds then (match grownAO e ((n + k) * i.size) (olds ++ vs) with
                  | some ob =>
                    bif ex || !lo then some (.slc (some (σ.next, 0)) (n + k) (n + k) false, σ.add ob)
                    else bif Nat.beq o 0 && (Nat.beq m (c * i.size) && (Nat.beq te e && Tr.inB b)) then some (.slc (some (σ.next, 0)) (n + k) (n + k) false, (σ.drop b).add ob)
                    else none
                  | none => none) else none
                | none => none
              | _ => none)
          else none
        | none => none
      | none => none
    | none => none
  | _, _ => none
end
/-- Cells that are written in a row. -/
theorem setCells_heap {g : Nat} {t : TypeId} : ∀ (vs : List Value) (o : Nat) (cur : Array Value) (w : World), w.heap[g]? = some (.cells cur t (0, 0)) → o + vs.length ≤ cur.size →
    (w.setCells g o vs).heap[g]? = some (.cells (setR cur.toList o vs).toArray t (0, 0)) ∧ (∀ k, k ≠ g → (w.setCells g o vs).heap[k]? = w.heap[k]?) ∧ (w.setCells g o vs).heap.size = w.heap.size ∧
    (w.setCells g o vs).os = w.os ∧ (w.setCells g o vs).tape = w.tape ∧ (w.setCells g o vs).output = w.output
  | [], o, cur, w, h, _ => by
    refine ⟨?_, fun _ _ => rfl, rfl, rfl, rfl, rfl⟩
    show w.heap[g]? = _
    rw [h]
    congr 2
    apply Array.ext'
    simp [setR]
  | v :: vs, o, cur, w, h, hl => by
    simp only [List.length_cons] at hl
    have h1 : (w.setCell ⟨g, o, none⟩ v).heap[g]? = some (.cells (cur.setIfInBounds o v) t (0, 0)) := by simp [World.setCell, Array.getElem?_modify, h]
    obtain ⟨h2, h3, h4, h5, h6, h7⟩ := setCells_heap vs (o + 1) _ _ h1 (by simp; omega)
    refine ⟨?_, fun k hk => (h3 k hk).trans (Go.RowKit.Below.heap_setCell w ⟨g, o, none⟩ v k hk), h4.trans (by simp [World.setCell]), h5, h6, h7⟩
    show (World.setCells _ g (o + 1) vs).heap[g]? = _
    rw [h2]
    congr 2
    apply Array.ext'
    show setR (cur.setIfInBounds o v).toList (o + 1) vs = setR cur.toList o (v :: vs)
    apply List.ext_getElem?
    intro i
    rw [setR_get _ _ _ (by simp; omega), setR_get _ _ _ (by simp; omega)]
    simp only [Array.toList_setIfInBounds, List.length_cons]
    by_cases h8 : i < o
    · rw [if_pos (by omega), if_pos h8, List.getElem?_set, if_neg (by omega)]
    · by_cases h9 : i = o
      · subst h9
        rw [if_pos (by omega), if_neg (by omega), if_pos (by omega), Nat.sub_self, List.getElem?_cons_zero, List.getElem?_set, if_pos rfl, if_pos (by simp; omega)]
      · rw [if_neg (by omega), if_neg h8]
        by_cases h10 : i < o + 1 + vs.length
        · rw [if_pos h10, if_pos (by omega), show i - o = (i - (o + 1)) + 1 by omega, List.getElem?_cons_succ]
        · rw [if_neg h10, if_neg (by omega), List.getElem?_set, if_neg (by omega)]
/-- A block goes on under a new number. -/
theorem Step.move {P : Program} {E : Env} {σ : St} {w w' : World} (h : Rel P E σ w) {b : Nat} {o o' : AO} {r : Nat × Nat} {ob : Obj} {x : Nat} (hin : b < 2 ^ 26) (hnx : σ.next < 2 ^ 26) (hb : σ.heap.get b = some o) (hr : E b = some r)
    (hob : w'.heap[r.1]? = some ob) (ho : ObjOK P (E.add σ.next (r.1, x)) x o' ob) (h1 : w'.os = w.os) (h2 : w'.tape = w.tape) (h3 : w'.output = w.output) (h4 : w'.heap.size = w.heap.size) (h5 : ∀ c, c ≠ r.1 → w'.heap[c]? = w.heap[c]?) :
    Step P E σ w (E.add σ.next (r.1, x)) ((σ.drop b).add o') w' := by
  have hn := next_none h
  have hle := Env.add_le (r := (r.1, x)) hn
  have hself := Env.add_self E σ.next (r.1, x)
  have hold : ∀ b r', b ≠ σ.next → (E.add σ.next (r.1, x)) b = some r' → E b = some r' := fun b r' hb hr => by
    unfold Env.add at hr; rwa [if_neg hb] at hr
  have hget : ∀ b1 o1, ((σ.drop b).add o').heap.get b1 = some o1 → (b1 = σ.next ∧ o1 = o') ∨ (b1 ≠ σ.next ∧ b1 ≠ b ∧ σ.heap.get b1 = some o1) := fun b1 o1 hg => by
    unfold St.add at hg
    have e : (σ.drop b).next = σ.next := rfl
    rw [e] at hg
    simp only [Tr.get_put _ _ _ _ hnx] at hg
    by_cases hbb : b1 = σ.next
    · rw [if_pos hbb] at hg; cases hg; exact Or.inl ⟨hbb, rfl⟩
    · rw [if_neg hbb] at hg
      obtain ⟨h6, h7⟩ := drop_get hin hg
      exact Or.inr ⟨hbb, h6, h7⟩
  refine ⟨hle, ⟨fun b1 o1 hb1 r1 hr1 => ?_, fun b1 b2 o1 o2 r1 r2 hb1 hb2 hr1 hr2 hrr => ?_, fun b1 r1 hr1 => ?_, fun b1 o1 hb1 => ?_⟩, h1, h2, h3, Nat.le_of_eq h4.symm, fun c _ hc => h5 c fun e => hc ⟨b, o, r, hb, hr, e.symm⟩, fun c hc => ?_, Nat.le_succ _, fun b1 r1 e1 e2 => ?_⟩
  · rcases hget b1 o1 hb1 with ⟨rfl, rfl⟩ | ⟨h6, h7, h8⟩
    · rw [hself] at hr1
      cases hr1
      exact ⟨ob, hob, ho⟩
    · have h9 := hold b1 r1 h6 hr1
      obtain ⟨ob1, e1, e2⟩ := h.obj b1 o1 h8 r1 h9
      exact ⟨ob1, (h5 r1.1 fun e => h7 (h.inj b1 b o1 o r1 r h8 hb h9 hr e)).trans e1, e2.mono hle⟩
  · rcases hget b1 o1 hb1 with ⟨rfl, rfl⟩ | ⟨h6, h7, h8⟩ <;> rcases hget b2 o2 hb2 with ⟨rfl, rfl⟩ | ⟨h6', h7', h8'⟩
    · rfl
    · rw [hself] at hr1
      cases hr1
      exact absurd (h.inj b2 b o2 o r2 r h8' hb (hold b2 r2 h6' hr2) hr hrr.symm) h7'
    · rw [hself] at hr2
      cases hr2
      exact absurd (h.inj b1 b o1 o r1 r h8 hb (hold b1 r1 h6 hr1) hr hrr) h7
    · exact h.inj b1 b2 o1 o2 r1 r2 h8 h8' (hold b1 r1 h6 hr1) (hold b2 r2 h6' hr2) hrr
  · rw [h4]
    show b1 < σ.next + 1 ∧ _
    by_cases hbb : b1 = σ.next
    · subst hbb
      rw [hself] at hr1
      cases hr1
      exact ⟨Nat.lt_succ_self _, (h.rng b r hr).2⟩
    · have := h.rng b1 r1 (hold b1 r1 hbb hr1)
      exact ⟨Nat.lt_succ_of_lt this.1, this.2⟩
  · show b1 < σ.next + 1
    rcases hget b1 o1 hb1 with ⟨rfl, rfl⟩ | ⟨h6, h7, h8⟩
    · exact Nat.lt_succ_self _
    · exact Nat.lt_succ_of_lt (h.live b1 o1 h8)
  · obtain ⟨b1, o1, r1, hb1, hr1, rfl⟩ := hc
    rcases hget b1 o1 hb1 with ⟨rfl, rfl⟩ | ⟨h6, h7, h8⟩
    · rw [hself] at hr1
      cases hr1
      exact Or.inl ⟨b, o, r, hb, hr, rfl⟩
    · exact Or.inl ⟨b1, o1, r1, h8, hold b1 r1 h6 hr1, rfl⟩
  · by_cases hbb : b1 = σ.next
    · omega
    · rw [hold b1 r1 hbb e2] at e1
      cases e1
theorem growBy_le (m B : Nat) : ∀ (r c : Nat), c ≤ B → Builtin.growBy m r c ≤ B + (m + (m + 768) / 4)
  | 0, c, h => by simp only [Builtin.growBy]; omega
  | r + 1, c, h => by
    simp only [Builtin.growBy]
    split
    · omega
    · next hc =>
      have key : ∀ (r c : Nat), c ≤ m + (m + 768) / 4 → Builtin.growBy m r c ≤ m + (m + 768) / 4 := by
        intro r
        induction r with
        | zero => intro c hc; simpa only [Builtin.growBy] using hc
        | succ r ih =>
          intro c hc
          simp only [Builtin.growBy]
          split
          · exact hc
          · exact ih _ (by omega)
      have := key r (c + (c + 768) / 4) (by omega)
      omega
theorem next_le {m c : Nat} (h : c < m) : Builtin.nextslicecap m c ≤ 3 * m + 200 := by
  unfold Builtin.nextslicecap
  split
  · omega
  · split
    · omega
    · have := growBy_le m c 4 c (Nat.le_refl _)
      omega
section
variable {P : Program} {w : World} {E : Env} {tm : Tm} {a : Act} {σ : St}
theorem src_sound (hR : Rel P E σ w) {t : TypeId} {size : Nat} {x : AV} {cx : Value} {k : Nat} {vs : List AV} (h : srcA P σ t size x = some (k, vs)) (hx : conc E x = some cx) :
    ∃ news, Src P size t cx k news w ∧ concs E vs = some news := by
  unfold srcA at h
  split at h <;> first | (cases h; done) | skip
  · next e b o m c ex hu =>
    split at h <;> first | (cases h; done) | skip
    next ob hb =>
    split at h <;> first | (cases h; done) | skip
    next us hv =>
    cases ho : allOne us with
    | false => rw [ho] at h; cases h
    | true =>
      rw [ho] at h
      injection h with h
      obtain ⟨rfl, rfl⟩ := Prod.mk.inj h
      simp only [conc, Option.map_eq_some_iff] at hx
      obtain ⟨r, hr, rfl⟩ := hx
      obtain ⟨cs, h1, h2, h3⟩ := rd_cells hR hb hr _ _ _ hv
      exact ⟨cs, Src.ofSlice w hu ⟨r.1, o, none⟩ m _ cs h1 (fun j u hj => by rw [Addr.add_mid]; exact h2 j u hj) (allOne_conc ho h3), h3⟩
  · next e c ex hu =>
    injection h with h
    obtain ⟨rfl, rfl⟩ := Prod.mk.inj h
    simp only [conc, Option.some.injEq] at hx
    subst hx
    exact ⟨[], Src.ofNil w hu c, rfl⟩
  · next e b o0 o1 ex hu =>
    injection h with h
    obtain ⟨rfl, rfl⟩ := Prod.mk.inj h
    simp only [conc, Option.map_eq_some_iff] at hx
    obtain ⟨r, hr, rfl⟩ := hx
    exact ⟨[], Src.ofSlice w hu _ 0 _ [] (by simp) (fun j u hj => by simp at hj) (fun u hu => by cases hu), rfl⟩
  · next l hu =>
    cases hb : Nat.beq size 1 with
    | false => rw [hb] at h; cases h
    | true =>
      rw [hb] at h
      obtain rfl := beq_eq hb
      injection h with h
      obtain ⟨rfl, rfl⟩ := Prod.mk.inj h
      simp only [conc, Option.some.injEq] at hx
      subst hx
      have := Src.ofString (P := P) w hu ⟨l.toArray⟩
      have hsz : (⟨l.toArray⟩ : ByteArray).size = l.length := by simp [ByteArray.size]
      rw [hsz] at this
      exact ⟨_, this, byteAV_conc E l⟩
theorem grown_ok {E' : Env} {e : TypeId} {n x : Nat} {vs : List AV} {ob : AO} {ds : List Value} {cs : Array Value} (h : grownAO e n vs = some ob) (hd : concs E' vs = some ds) (hs : cs.size = n + x * P.cellsOf e) (hp : ∀ (i : Nat) (c : Value), ds[i]? = some c → cs[i]? = some c) :
    ObjOK P E' x ob (.cells cs e) := by
  unfold grownAO at h
  cases hb : (Nat.blt vs.length 60000000 && Nat.beq vs.length n) with
  | false => rw [hb] at h; cases h
  | true =>
    rw [hb] at h
    simp only [cond_true, Option.some.injEq] at h
    subst h
    rw [Bool.and_eq_true] at hb
    have hlt := blt_lt hb.1
    have hln := beq_eq hb.2
    subst hln
    refine ⟨cs, rfl, hs, (fun h => by cases h), fun i v hi => ?_⟩
    unfold rdO at hi
    simp only at hi
    rw [trL_get vs 0 .e i (by omega)] at hi
    cases hb2 : Nat.blt i vs.length with
    | false => rw [hb2] at hi; cases hi
    | true =>
      rw [hb2] at hi
      have hil := blt_lt hb2
      rw [if_pos (by omega), Nat.sub_zero, List.getElem?_eq_getElem hil] at hi
      simp only [cond_true, Option.some.injEq] at hi
      obtain ⟨c, h1, h2⟩ := concs_get hd (List.getElem?_eq_getElem hil)
      rw [hi] at h2
      exact ⟨c, hp i c h1, h2⟩
/-- What an operation with effects comes to. -/
def DoneBy (P : Program) (E : Env) (σ : St) (w : World) (r : Result Value) (v : AV) (σ' : St) : Prop :=
  ∃ E' w' c, r = .ok c w' ∧ conc E' v = some c ∧ Step P E σ w E' σ' w'
theorem app_sound (hR : Rel P E σ w) {sT xT ty : TypeId} {s x v : AV} {σ' : St} {cs cx : Value} (h : appA P σ sT xT s x = some (v, σ')) (hs : conc E s = some cs) (hx : conc E x = some cx) :
    DoneBy P E σ w ((Builtin.append_ #[sT, xT] ty #[cs, cx]).run P w) v σ' := by
  unfold appA at h
  split at h <;> first | (cases h; done) | skip
  next e p n c ex hu =>
  split at h <;> first | (cases h; done) | skip
  next i hi =>
  split at h <;> first | (cases h; done) | skip
  next z hz =>
  split at h <;> first | (cases h; done) | skip
  next k vs hsrc =>
  obtain ⟨news, hS, hnews⟩ := src_sound hR hsrc hx
  have hcell : P.cellsOf e = i.size := by simp [Program.cellsOf, hi]
  have hnl := concs_length hnews
  cases hroom : Nat.ble (n + k) c with
  | true =>
    rw [hroom] at h
    simp only [cond_true] at h
    have hr1 := ble_le hroom
    cases p with
    | some q =>
      obtain ⟨b, o⟩ := q
      simp only at h
      split at h <;> first | (cases h; done) | skip
      next ob hb =>
      cases hin : Tr.inB b with
      | false => rw [hin] at h; cases h
      | true =>
        rw [hin] at h
        simp only [cond_true] at h
        split at h <;> first | (cases h; done) | skip
        next ob' hw =>
        injection h with h
        obtain ⟨rfl, rfl⟩ := Prod.mk.inj h
        simp only [conc, Option.map_eq_some_iff] at hs
        obtain ⟨r, hr, rfl⟩ := hs
        obtain ⟨s1, s2, s3⟩ := step_wrN vs hR (Tr.inB_lt hin) hb hr hw hnews
        have hle : c ≤ (if ex then c else c + r.2) := by split <;> omega
        refine ⟨E, _, _, run_append_room_src (P := P) w sT xT ty e i hu hi r.1 o n _ cx k news hS (by omega) (fun j hj => (s2 j hj).1) (fun j hj => (s2 j hj).2), ?_, s1⟩
        simp [conc, hr]
    | none =>
      simp only at h
      cases hk : Nat.beq k 0 with
      | false => rw [hk] at h; cases h
      | true =>
        rw [hk] at h
        obtain rfl := beq_eq hk
        simp only [cond_true, Option.some.injEq, Prod.mk.injEq] at h
        obtain ⟨rfl, rfl⟩ := h
        simp only [conc, Option.some.injEq] at hs
        subst hs
        refine ⟨E, w, .slice none n c, ?_, by simp [conc], Step.refl hR⟩
        have hn : n ≤ c := by omega
        rcases hS.kind with ⟨e', hk'⟩ | hk' <;> simp [Builtin.append_, run_underlying hu, run_underlying hk', sizeOf, typeInfo, hi, hS.len, hn, hS.cells]
  | false =>
    rw [hroom] at h
    simp only [cond_false] at h
    have hr1 : c < n + k := by
      rcases Nat.lt_or_ge c (n + k) with h1 | h1
      · exact h1
      · rw [Nat.ble_eq_true_of_le h1] at hroom; cases hroom
    cases hfit : (Nat.ble ((n + k) * i.bytes) 1000000000000 && (Nat.ble (n + k) 1000000000000 && (Nat.ble i.bytes 100000 && (Nat.beq z.cells.size i.size && Tr.inB σ.next)))) with
    | false => rw [hfit] at h; cases h
    | true =>
      rw [hfit] at h
      simp only [cond_true] at h
      rw [Bool.and_eq_true, Bool.and_eq_true, Bool.and_eq_true, Bool.and_eq_true] at hfit
      have f1 := ble_le hfit.1
      have f2 := ble_le hfit.2.1
      have f3 := ble_le hfit.2.2.1
      have f4 := beq_eq hfit.2.2.2.1
      have f5 := Tr.inB_lt hfit.2.2.2.2
      have hcap : ∀ sc, sc < n + k → Builtin.nextslicecap (n + k) sc * i.bytes ≤ 281474976710656 := fun sc hsc => by
        have h1 := next_le hsc
        have h2 : Builtin.nextslicecap (n + k) sc * i.bytes ≤ (3 * (n + k) + 200) * i.bytes := Nat.mul_le_mul_right _ h1
        have h3 : (3 * (n + k) + 200) * i.bytes = 3 * ((n + k) * i.bytes) + 200 * i.bytes := by rw [Nat.add_mul, Nat.mul_assoc]
        omega
      have h63 : ((n + k : Nat) : Int) ≤ 9223372036854775807 := by omega
      -- what a new row gives
      have hnew : ∀ (base : Option Addr) (sc : Nat) (olds : List Value) (ol : List AV) (ob : AO) (σ1 : St), sc < n + k → (Builtin.firstCells i.size n (.slice base n sc)).run P w.drew = .ok olds.toArray w.drew →
          concs E ol = some olds → olds.length = n * i.size → grownAO e ((n + k) * i.size) (ol ++ vs) = some ob → Rel P E σ1 w → σ1.next = σ.next → Step P E σ w E σ1 w →
          DoneBy P E σ w ((Builtin.append_ #[sT, xT] ty #[.slice base n sc, cx]).run P w) (.slc (some (σ.next, 0)) (n + k) (n + k) false) (σ1.add ob) := by
        intro base sc olds ol ob σ1 hsc hf hol hll hg hR1 hnx hst
        have hrun := run_append_grow_src (P := P) w sT xT ty e i z hu hi hz base n sc olds hf cx k news hS hsc h63 (hcap sc hsc)
        have hge := grownCap_ge w (n + k) sc e
        obtain ⟨G, hG⟩ : ∃ G, G = grownCap w (n + k) sc e := ⟨_, rfl⟩
        rw [← hG] at hrun hge
        have hcat := concs_append hol hnews
        have hoksz : ((olds ++ news).toArray ++ Builtin.zeroCells z.cells (G - (n + k))).size = (n + k) * i.size + (G - (n + k)) * P.cellsOf e := by
          rw [Array.size_append, size_zeroCells, f4, hcell]
          simp [hll, hS.newsLen, Nat.add_mul]
        have hdr := Step.drewN (P := P) hR1 1
        have hdw : w.drewN 1 = w.drew := rfl
        rw [hdw] at hdr
        have hal := Step.alloc (ob := .cells ((olds ++ news).toArray ++ Builtin.zeroCells z.cells (G - (n + k))) e) hdr.rel (o := ob) (x := G - (n + k)) (by rw [hnx]; exact f5)
          (grown_ok hg (concs_mono (Env.add_le (next_none hdr.rel)) _ _ hcat) hoksz (fun j cc hj => by
            rw [Array.getElem?_append_left (by
              have := (List.getElem?_eq_some_iff.1 hj).1
              simpa using this)]
            simpa using hj))
        refine ⟨_, _, _, hrun, ?_, (hst.trans hdr).trans hal⟩
        have hE : (E.add σ1.next (w.drew.heap.size, G - (n + k))) σ.next = some (w.heap.size, G - (n + k)) := by rw [hnx]; exact Env.add_self _ _ _
        simp only [conc, hE, Option.map_some, Option.some.injEq, Value.slice.injEq, true_and]
        simp
        omega
      cases p with
      | none =>
        simp only at h
        cases hn0 : (Nat.beq n 0 && Nat.beq c 0) with
        | false => rw [hn0] at h; cases h
        | true =>
          rw [hn0] at h
          rw [Bool.and_eq_true] at hn0
          obtain rfl := beq_eq hn0.1
          obtain rfl := beq_eq hn0.2
          simp only [cond_true] at h
          split at h <;> first | (cases h; done) | skip
          next ob hg =>
          injection h with h
          obtain ⟨rfl, rfl⟩ := Prod.mk.inj h
          simp only [conc, Option.some.injEq] at hs
          subst hs
          have := hnew none 0 [] [] ob σ hr1 (run_firstCells_none w.drew i.size 0 0 0) rfl (by simp) (by simpa using hg) hR rfl (Step.refl hR)
          simpa using this
      | some q =>
        obtain ⟨b, o⟩ := q
        simp only at h
        split at h <;> first | (cases h; done) | skip
        next m tt te d lo hb =>
        split at h <;> first | (cases h; done) | skip
        next olds hold =>
        cases ho1 : allOne olds with
        | false => rw [ho1] at h; cases h
        | true =>
          rw [ho1] at h
          simp only [cond_true] at h
          split at h <;> first | (cases h; done) | skip
          next ob hg =>
          simp only [conc, Option.map_eq_some_iff] at hs
          obtain ⟨r, hr, rfl⟩ := hs
          obtain ⟨oc, h1, h2, h3⟩ := rd_cells hR hb hr _ _ _ hold
          have hfc : ∀ sc, (Builtin.firstCells i.size n (.slice (some ⟨r.1, o, none⟩) n sc)).run P w.drew = .ok oc.toArray w.drew := fun sc =>
            run_firstCells_some w.drew i.size n ⟨r.1, o, none⟩ n sc oc h1 (fun j u hj => by rw [Addr.add_mid]; exact h2 j u hj)
          obtain ⟨obw, hob1, csw, rfl, hsz, hlo, hcel⟩ := hR.obj b _ hb r hr
          cases hex : (ex || !lo) with
          | true =>
            rw [hex] at h
            simp only [cond_true, Option.some.injEq, Prod.mk.injEq] at h
            obtain ⟨rfl, rfl⟩ := h
            have hsc : (if ex then c else c + r.2) < n + k := by
              rw [Bool.or_eq_true] at hex
              rcases hex with hx1 | hx1
              · rw [hx1]; exact hr1
              · have : lo = false := by simpa using hx1
                rw [hlo this]
                split <;> omega
            exact hnew _ _ oc olds ob σ hsc (hfc _) h3 h1 hg hR rfl (Step.refl hR)
          | false =>
            rw [hex] at h
            simp only [cond_false] at h
            rw [Bool.or_eq_false_iff] at hex
            obtain ⟨rfl, hlo'⟩ := hex
            cases hc0 : (Nat.beq o 0 && (Nat.beq m (c * i.size) && (Nat.beq te e && Tr.inB b))) with
            | false => rw [hc0] at h; cases h
            | true =>
              rw [hc0] at h
              simp only [cond_true, Option.some.injEq, Prod.mk.injEq] at h
              obtain ⟨rfl, rfl⟩ := h
              rw [Bool.and_eq_true, Bool.and_eq_true, Bool.and_eq_true] at hc0
              obtain rfl := beq_eq hc0.1
              have hm := beq_eq hc0.2.1
              obtain rfl := beq_eq hc0.2.2.1
              have hbin := Tr.inB_lt hc0.2.2.2
              have hdrop := Step.drop hR hbin
              simp only [Bool.false_eq_true, if_false]
              by_cases hfits : n + k ≤ c + r.2
              · -- in place
                have hlen : news.length = k * i.size := hS.newsLen
                have hcs : csw.size = (c + r.2) * i.size := by rw [hsz, hm, hcell, Nat.add_mul]
                have hbnd : n * i.size + news.length ≤ csw.size := by
                  rw [hlen, hcs, ← Nat.add_mul]
                  exact Nat.mul_le_mul_right _ hfits
                have hcl : ∀ j, j < news.length → (w.cell? ⟨r.1, 0 + n * i.size + j, none⟩).isSome = true := fun j hj => by
                  rw [cell_of_row w _ _ _ _ _ hob1]
                  simp
                  omega
                have hfr : ∀ j, j < news.length → w.frozen? ⟨r.1, 0 + n * i.size + j, none⟩ = false := fun j hj => by simp [World.frozen?, hob1]
                have hrun := run_append_room_src (P := P) w sT xT ty te i hu hi r.1 0 n (c + r.2) cx k news hS hfits hcl hfr
                obtain ⟨q1, q2, q3, q4, q5, q6⟩ := setCells_heap news (0 + n * i.size) csw w hob1 (by omega)
                have hcat := concs_append h3 hnews
                have hoc : oc = csw.toList.take (n * i.size) := by
                  apply List.ext_getElem?
                  intro j
                  rw [List.getElem?_take]
                  by_cases hj : j < n * i.size
                  · rw [if_pos hj]
                    have hj2 : j < oc.length := by omega
                    have := h2 j oc[j] (List.getElem?_eq_getElem hj2)
                    rw [cell_of_row w _ _ _ _ _ hob1, Nat.zero_add] at this
                    rw [List.getElem?_eq_getElem hj2]
                    simpa using this.symm
                  · rw [if_neg hj, List.getElem?_eq_none (by omega)]
                refine ⟨_, _, _, hrun, ?_, Step.move hR hbin f5 hb hr q1 (grown_ok (x := c + r.2 - (n + k)) hg (concs_mono (Env.add_le (next_none hR)) _ _ hcat) ?_ ?_) q4 q5 q6 q3 q2⟩
                · have hE : (E.add σ.next (r.1, c + r.2 - (n + k))) σ.next = some (r.1, c + r.2 - (n + k)) := Env.add_self _ _ _
                  simp only [conc, hE, Option.map_some, Option.some.injEq, Value.slice.injEq, true_and]
                  simp
                  omega
                · have e1 : (setR csw.toList (0 + n * i.size) news).toArray.size = csw.size := by
                    simp [setR]
                    omega
                  rw [e1, hcs, hcell, ← Nat.add_mul]
                  congr 1
                  omega
                · intro j cc hj
                  rw [List.getElem?_toArray, setR_get _ _ _ (by simp; omega)]
                  rw [hoc] at hj
                  have htl : (csw.toList.take (n * i.size)).length = n * i.size := by simp; omega
                  by_cases hj1 : j < n * i.size
                  · rw [if_pos (by omega)]
                    rw [List.getElem?_append_left (by omega), List.getElem?_take, if_pos hj1] at hj
                    exact hj
                  · rw [if_neg (by omega)]
                    rw [List.getElem?_append_right (by omega), htl] at hj
                    have := (List.getElem?_eq_some_iff.1 hj).1
                    rw [if_pos (by omega), Nat.zero_add]
                    exact hj
              · have hsc : c + r.2 < n + k := by omega
                exact hnew _ _ oc olds ob (σ.drop b) hsc (hfc _) h3 h1 hg hdrop.rel rfl hdrop
end
end Go.Proofs.YtopbojifllnckaaGreatDoor
