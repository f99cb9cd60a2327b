/- Put, walked. -/
import Derived.Test.YtehdclfmkeemgaaPut
namespace Go.Proofs.Ytehdclfmkeemgaa
open Go.RowKit
attribute [local irreducible] wpQuiet

theorem below_drewN {B : Nat} {a w : World} (h : Below B a w) (n : Nat) : Below B a (w.drewN n) := ⟨h.os, h.tape, h.output, h.size, h.block⟩
theorem LruAt.drewN {w : World} {B br M N bm c : Nat} {A : Option Addr} {L : List Ent} (h : LruAt w B br M N L bm A c) (n : Nat) : LruAt (w.drewN n) B br M N L bm A c := h.keep rfl rfl (fun _ _ => rfl) (fun _ _ => rfl)
theorem own_ge {w : World} {base e size n : Nat} {v : Value} {xs : List Value} (h : w.ownsRow base e size v n xs) : ∀ q, v.ownBlock = some q → base ≤ q := by
  intro q hq
  rcases h.2 with ⟨rfl, _⟩ | ⟨g, cap, cur, rfl, hb, _⟩
  · cases hq
  · cases hq; exact hb
theorem evictL_room {M n k : Nat} {L : List Ent} (h : total L + n ≤ M) : evictL M n k L = (L, []) := by
  cases k with
  | zero => rfl
  | succ k => unfold evictL; rw [if_neg (by omega)]
theorem evictL_stop {M n k : Nat} {L : List Ent} (h : looseI L = none) : evictL M n k L = (L, []) := by
  cases k with
  | zero => rfl
  | succ k => unfold evictL; simp [h]
theorem evictL_step {M n : Nat} {L : List Ent} {i : Nat} {e : Ent} (h : M < total L + n) (hi : looseI L = some i) (he : L[i]? = some e) :
    evictL M n L.length L = ((evictL M n (L.eraseIdx i).length (L.eraseIdx i)).1, e.key :: (evictL M n (L.eraseIdx i).length (L.eraseIdx i)).2) := by
  have hlt : i < L.length := (List.getElem?_eq_some_iff.1 he).1
  obtain ⟨k, hk⟩ : ∃ k, L.length = k + 1 := ⟨L.length - 1, by omega⟩
  have hk' : (L.eraseIdx i).length = k := by rw [List.length_eraseIdx_of_lt hlt]; omega
  rw [hk', hk]
  rw [evictL.eq_2, if_pos h, hi]
  simp [he]
def putL (M : Nat) (L : List Ent) (x : Int) (v : ByteArray) (g : Nat) : List Ent × List Int :=
  if M < v.size then (goneL L x, []) else
    if M < total (evictL M v.size (goneL L x).length (goneL L x)).1 + v.size then evictL M v.size (goneL L x).length (goneL L x)
    else ((evictL M v.size (goneL L x).length (goneL L x)).1 ++ [⟨x, v, false, g⟩], (evictL M v.size (goneL L x).length (goneL L x)).2)

theorem look_snoc {K : List Ent} {x : Int} (hn : ∀ e ∈ K, e.key ≠ x) (v : ByteArray) (b : Bool) (g : Nat) (y : Int) : look (K ++ [⟨x, v, b, g⟩]) y = if y = x then some g else look K y := by
  unfold look
  rw [List.find?_append]
  by_cases hy : y = x
  · subst hy
    rw [if_pos rfl, List.find?_eq_none.2 (fun z hz => by simpa using hn z hz)]
    simp
  · rw [if_neg hy]
    have : (x == y) = false := by simpa using fun h => hy h.symm
    simp [this]
section
variable {w : World} {B br M N bm c : Nat} {A : Option Addr} {L : List Ent}
def PutPost (B br M N bm : Nat) (A : Option Addr) (L : List Ent) (x : Int) (v : ByteArray) (w : World) (e : Ending) (w' : World) : Prop :=
  ∃ A' c' g Ao co, e = .returned (.slice Ao (putL M L x v g).2.length co) ∧ LruAt w' B br M (N + 1) (putL M L x v g).1 bm A' c' ∧ IntsAt w' w'.heap.size Ao (putL M L x v g).2 ∧ Below B w w' ∧
    KeptBut w w' br bm A ∧ NewAt w A A' ∧ w.heap.size ≤ g
theorem LruAt.moreN {N' : Nat} (h : LruAt w B br M N L bm A c) (hN : N ≤ N') : LruAt w B br M N' L bm A c := ⟨h.blk, h.map.more hN, h.ent, h.row, h.nodup, h.gs, h.wf, h.base⟩

def slen : Value → Nat
  | .slice _ n _ => n
  | _ => 0
theorem slen_own {w : World} {base e size n : Nat} {v : Value} {xs : List Value} (h : w.ownsRow base e size v n xs) : slen v = n := by
  obtain ⟨A, c, rfl⟩ := own_form h; rfl
/-- Where the loop that makes room stands: K is kept, outs went. -/
def Room (W0 B br M N bm : Nat) (A : Option Addr) (c : Nat) (L1 : List Ent) (n : Nat) (w0 : World) (K : List Ent) (outs : List Int) (v : Value) (wr : World) : Prop :=
  LruAt wr B br M N K bm A c ∧ wr.ownsRow W0 3 1 v outs.length (nums outs) ∧ Below B w0 wr ∧ W0 ≤ wr.heap.size ∧ K.Sublist L1 ∧
    evictL M n L1.length L1 = ((evictL M n K.length K).1, outs ++ (evictL M n K.length K).2) ∧ outs.length + K.length = L1.length ∧ KeptBut w0 wr br bm A

set_option maxHeartbeats 800000 in
theorem put_any (h : Hid (LruAt w B br M N L bm A c)) {x : Int} (hx : (Lit.int .i64 x).wf = true) (hM : M ≤ 65536) (ht : total L ≤ M) (hl : L.length ≤ 1000) (hN : N ≤ 1000) (v : ByteArray) (hv : v.size ≤ 100000) :
    Calls Try.prog 13 #[.pointer (some ⟨br, 0, none⟩), .int .i64 x, .string v] w (PutPost B br M N bm A L x v w) := by
  have HG := hid (gone_any h hx (by omega))
  go_enter Try.func13, Try.ntmps13
  go_wp2_with fail
  refine HG.out.mono ?_
  rintro r w1 ⟨rfl, hL1, hb1, hk1⟩
  obtain ⟨L1, hL1e⟩ : ∃ L1, L1 = goneL L x := ⟨_, rfl⟩
  have htot1 : total L1 ≤ M := by rw [hL1e]; exact Nat.le_trans (total_sub (goneL_sub L x)) ht
  have hlen1 : L1.length ≤ 1000 := by rw [hL1e]; exact Nat.le_trans (goneL_sub L x).length_le hl
  have hnot : Hid (∀ e ∈ L1, e.key ≠ x) := by rw [hL1e]; exact goneL_not h.out.nodup x
  rw [← hL1e] at hL1
  have HL1 := hid hL1
  have HB1 := hid hb1
  have HE1 := hid hL1e
  have HK1 := hid hk1
  have e0 : w1.cell? ⟨br, 0, none⟩ = some (.int .i64 M) := by rw [hL1.blk.cell]; rfl
  clear hL1 hb1 hk1 hL1e
  by_cases hbig : M < v.size
  · go_wp2_with fail
    go_ret
    have hp : putL M L x v w.heap.size = (L1, []) := by unfold putL; rw [if_pos hbig, HE1.out]
    refine ⟨A, c, w.heap.size, none, 0, by rw [hp]; rfl, by rw [hp]; exact HL1.out.moreN (by omega), by rw [hp]; exact fun h => absurd h (by simp), HB1.out, HK1.out, NewAt.refl _ _, Nat.le_refl _⟩
  · go_wp2_with fail
    clear e0
    have HA : Hid (∀ ad, A = some ad → ad.block < w1.heap.size) := hid fun ad had => by
      subst had
      rcases HL1.out.row.2 with ⟨h0, _⟩ | ⟨g, cap, cur, hv, _, hc, _⟩
      · cases h0
      · cases hv
        exact (Array.getElem?_eq_some_iff.1 hc).1
    go_loopw [7] (fun v' wr => ∃ K outs, Hid (Room w1.heap.size B br M N bm A c L1 v.size w1 K outs v' wr)) (fun v' _ => L1.length - slen v')
    case atStart => exact ⟨L1, [], HL1.out, World.ownsRow_nil _ _ _ _, Below.refl _ _, Nat.le_refl _, List.Sublist.refl _, by simp, by simp, KeptBut.refl _ _ _ _⟩
    case round =>
      obtain ⟨K, outs, hR⟩ := hrel
      obtain ⟨Ao, co, hu⟩ := own_form hR.out.2.1
      subst hu
      have htK : total K ≤ M := Nat.le_trans (total_sub hR.out.2.2.2.2.1) htot1
      have hKl : K.length ≤ 1000 := Nat.le_trans hR.out.2.2.2.2.1.length_le hlen1
      have hLK := hid hR.out.1
      have c0 : wr.cell? ⟨br, 0, none⟩ = some (.int .i64 M) := by rw [hLK.out.blk.cell]; rfl
      have c1 : wr.cell? ⟨br, 1, none⟩ = some (.int .i64 (total K : Nat)) := by rw [hLK.out.blk.cell]; rfl
      have hsum : IntKind.i64.wrap ((total K : Int) + (v.size : Int)) = (total K : Int) + (v.size : Int) := by rw [IntKind.wrap_i64]; omega
      have c2 : wr.cell? ⟨br, 2, none⟩ = some (.map (some bm)) := by rw [hLK.out.blk.cell]; rfl
      by_cases hroom : total K + v.size ≤ M
      · have ht1 : decide ((M : Int) < (total K : Int) + (v.size : Int)) = false := decide_eq_false (by omega)
        go_wp2_with fail
        go_quiet (fail)
        have hmap := hLK.out.map
        go_wp2_with (at_mapUpdate; refine wpList_put (by rfl) (.tmp 52) (.tmp 53) (.tmp 56) (by rfl) bm N (look K) (by rfl) ?map (by unfold maxLen; omega) x (by rfl) hx wr.heap.size (by rfl) ?_)
        case map => exact hmap.keep (Below.heap_alloc _ _ _ hmap.lt)
        intro w5 hmap5 hg5
        have hbrlt := hLK.out.blk.lt
        have hbrbm : br ≠ bm := fun e' => by
          obtain ⟨D, ⟨es, clock, hb, _⟩, _⟩ := hLK.out.map
          have := hLK.out.blk
          unfold Blk at this
          rw [e', hb] at this
          cases this
        have hs5 : wr.heap.size + 1 ≤ w5.heap.size := by have := hg5.size; simpa using this
        have h5 : ∀ k, k < wr.heap.size → k ≠ bm → w5.heap[k]? = wr.heap[k]? := fun k hk hne => (hg5.block k (by simp; omega) (fun e' => hne (Option.some.inj e'))).trans (Below.heap_alloc _ _ _ hk)
        have hblk5 : Blk w5 br 57 #[.int .i64 M, .int .i64 (total K : Nat), .map (some bm), .slice A K.length c] := (h5 br hbrlt hbrbm).trans hLK.out.blk
        have hgbm : wr.heap.size ≠ bm := fun e' => by have := hmap.lt; omega
        have hnew5 : Blk w5 wr.heap.size 65 #[.string v, .bool false] := (hg5.block _ (by simp) (fun e' => hgbm (Option.some.inj e'))).trans (Blk.new (wr.drewN _) 65 #[.string v, .bool false])
        have c3 : w5.cell? ⟨br, 3, none⟩ = some (.slice A K.length c) := by rw [hblk5.cell]; rfl
        have hkl : (nums (keysL K)).length = K.length := by simp [nums, keysL]
        have hrow5 : w5.ownsRow B 3 1 (.slice A K.length c) (nums (keysL K)).length (nums (keysL K)) := by
          rw [hkl]
          obtain ⟨hl, hr⟩ := hLK.out.row
          rcases hr with hr | ⟨g, cap, cur, hv, hb, hc, hr⟩
          · exact ⟨hl, .inl hr⟩
          · cases hv
            refine ⟨hl, .inr ⟨g, c, cur, rfl, hb, (h5 g (Array.getElem?_eq_some_iff.1 hc).1 (fun e' => ?_)).trans hc, hr⟩⟩
            obtain ⟨D, ⟨es, clock, hb, _⟩, _⟩ := hLK.out.map
            rw [← e', hc] at hb
            cases hb
        have hsz := hid (show ((nums (keysL K)).length + [Value.int .i64 x].length) * 8 ≤ 140737488355328 by rw [hkl]; simp; omega)
        have HKL := hid hkl
        have HR5 := hid hrow5
        have HG5 := hid hg5
        have HM5 := hid hmap5
        have H5 := hid h5
        clear hkl hrow5 hg5 hmap5 h5 hmap
        go_wp2_with (at_builtin; refine wpList_app _ rfl (.tmp 61) (.tmp 63) 33 3 (.int .i64 0) 8 rfl Try.underlying33 info3 rfl (by decide) B (.slice A K.length c) (nums (keysL K)) rfl ?own (w5.alloc (.cells #[.int .i64 x] 3)).heap.size (some ⟨w5.heap.size, 0, none⟩) 1 1 [.int .i64 x] rfl rfl ?hold ?one hsz.out ?base ?_)
        case own => exact HR5.out.alloc _
        case hold => exact Holds.of_blk (Blk.new w5 3 #[.int .i64 x]) 0 1 (by simp)
        case one =>
          intro u hu
          simp only [List.mem_singleton] at hu
          subst hu
          rfl
        case base =>
          have h3 := hLK.out.base.1
          simp
          omega
        intro v6 w6 hown6 hg6 hat6
        have hA5 : ∀ ad, A = some ad → ad.block < w1.heap.size := HA.out
        have hAbr : ∀ ad, A = some ad → br ≠ ad.block := fun ad had e' => by
          subst had
          rcases hLK.out.row.2 with ⟨h0, _⟩ | ⟨g, cap, cur, hv, _, hc, _⟩
          · cases h0
          · cases hv
            exact Blk.ne_ hLK.out.blk (show Blk wr g 3 cur from hc) (by decide) e'
        have hob : ∀ k, (∀ ad, A = some ad → k ≠ ad.block) → some k ≠ (Value.slice A K.length c).ownBlock := fun k hk e' => by
          cases A with
          | none => cases e'
          | some ad => exact hk ad rfl (Option.some.inj e')
        have h6 : ∀ k, k < w5.heap.size → (∀ ad, A = some ad → k ≠ ad.block) → w6.heap[k]? = w5.heap[k]? := fun k hk hne => (hg6.block k (by simp; omega) (fun e' => hob k hne e')).trans (Below.heap_alloc _ _ _ hk)
        have hblk6 : Blk w6 br 57 #[.int .i64 M, .int .i64 (total K : Nat), .map (some bm), .slice A K.length c] := (h6 br (by omega) hAbr).trans hblk5
        have c3' : w6.cell? ⟨br, 3, none⟩ = some (.slice A K.length c) := by rw [hblk6.cell]; rfl
        have c1' : w6.cell? ⟨br, 1, none⟩ = some (.int .i64 (total K : Nat)) := by rw [hblk6.cell]; rfl
        have f3 := hblk6.frozen 3
        have f1 := hblk6.frozen 1
        obtain ⟨A6, cap6, hv6⟩ := own_form hown6
        rw [HKL.out] at hv6
        subst hv6
        have HOWN := hid hown6
        have HAT := hid hat6
        have HG6 := hid hg6
        have H6 := hid h6
        clear hown6 hg6 h6 hat6 hob hAbr hA5
        go_wp2_with fail
        go_ret
        have hRo := hR.out
        obtain ⟨_, hrowO, hbR, hsR, hsub, hev, hlenR, hkR⟩ := hRo
        rw [evictL_room hroom] at hev
        simp only [List.append_nil] at hev
        have hp : putL M L x v wr.heap.size = (K ++ [⟨x, v, false, wr.heap.size⟩], outs) := by
          unfold putL
          rw [if_neg hbig, ← HE1.out, hev, if_neg (show ¬ M < total K + v.size by omega)]
        have hsz6 := HG6.out.size
        have hlenK : (K ++ [(⟨x, v, false, wr.heap.size⟩ : Ent)]).length = K.length + 1 := by simp
        have hown6 := HOWN.out
        rw [HKL.out, show nums (keysL K) ++ [Value.int .i64 x] = nums (keysL (K ++ [(⟨x, v, false, wr.heap.size⟩ : Ent)])) by simp [nums, keysL]] at hown6
        obtain ⟨g6, cur6, hA6, hB6, hcur6, _⟩ := row_form hown6 (by omega)
        subst hA6
        have hg6br : g6 ≠ br := Blk.ne_ (show Blk w6 g6 3 cur6 from hcur6) hblk6 (by decide)
        have hset : ∀ k, k ≠ br → ((w6.setCell ⟨br, 3, none⟩ (.slice (some ⟨g6, 0, none⟩) (K.length + 1) cap6)).setCell ⟨br, 1, none⟩ (.int .i64 ((total K : Int) + (v.size : Int)))).heap[k]? = w6.heap[k]? := fun k hk =>
          (Below.heap_setCell _ _ _ _ (show k ≠ br from hk)).trans (Below.heap_setCell _ _ _ _ (show k ≠ br from hk))
        have hbmA : ∀ ad, A = some ad → bm ≠ ad.block := fun ad had e' => by
          subst had
          rcases hLK.out.row.2 with ⟨h0, _⟩ | ⟨g, cap, cur, hv, _, hc, _⟩
          · cases h0
          · cases hv
            obtain ⟨D, ⟨es, clock, hb, _⟩, _⟩ := hLK.out.map
            have : g = bm := e'.symm
            rw [← this, hc] at hb
            cases hb
        have hentA : ∀ e ∈ K, ∀ ad, A = some ad → e.g ≠ ad.block := fun e he ad had e' => by
          subst had
          rcases hLK.out.row.2 with ⟨h0, _⟩ | ⟨g, cap, cur, hv, _, hc, _⟩
          · cases h0
          · cases hv
            exact Blk.ne_ (hLK.out.ent e he) (show Blk wr g 3 cur from hc) (by decide) e'
        have hentbm : ∀ e ∈ K, e.g ≠ bm := fun e he e' => by
          obtain ⟨D, ⟨es, clock, hb, _⟩, _⟩ := hLK.out.map
          have := hLK.out.ent e he
          unfold Blk at this
          rw [e', hb] at this
          cases this
        have hnewA : ∀ ad, A = some ad → wr.heap.size ≠ ad.block := fun ad had e' => by have := HA.out ad had; omega
        have hsB1 := HB1.out.size
        have hkAll : KeptBut w ((w6.setCell ⟨br, 3, none⟩ (.slice (some ⟨g6, 0, none⟩) (K.length + 1) cap6)).setCell ⟨br, 1, none⟩ (.int .i64 ((total K : Int) + (v.size : Int)))) br bm A := fun k h0 h1 h2 h3 =>
          (((hset k h1).trans (H6.out k (by omega) h3)).trans (H5.out k (by omega) h2)).trans ((HK1.out.trans hkR hsB1) k h0 h1 h2 h3)
        have hnew : NewAt w A (some ⟨g6, 0, none⟩) := by
          intro ad had
          obtain rfl := Option.some.inj had
          rcases HAT.out with h1 | h1
          · left
            cases A with
            | none => simp [Value.ownBlock] at h1
            | some a => exact ⟨a, rfl, by simpa [Value.ownBlock] using h1⟩
          · have h3 : g6 = w5.heap.size + 1 := by simpa [Value.ownBlock] using h1
            exact .inr (by show w.heap.size ≤ g6; omega)
        refine ⟨some ⟨g6, 0, none⟩, cap6, wr.heap.size, Ao, co, by rw [hp]; rfl, ?_, ?_, ?_, hkAll, hnew, by omega⟩
        · rw [hp]
          refine ⟨?_, ?_, ?_, ?_, ?_, ?_, ?_, ?_⟩
          · have := (hblk6.set_ 3 (.slice (some ⟨g6, 0, none⟩) (K.length + 1) cap6)).set_ 1 (.int .i64 ((total K : Int) + (v.size : Int)))
            rw [hlenK, show ((total (K ++ [(⟨x, v, false, wr.heap.size⟩ : Ent)]) : Nat) : Int) = (total K : Int) + (v.size : Int) by simp [total]]
            exact this
          · rw [show look (K ++ [(⟨x, v, false, wr.heap.size⟩ : Ent)]) = fun y => if y = x then some wr.heap.size else look K y from funext fun y => look_snoc (fun e he => hnot.out e (hsub.mem he)) v false _ y]
            exact HM5.out.keep ((hset bm (fun e' => hbrbm e'.symm)).trans (H6.out bm (by have := HM5.out.lt; omega) hbmA))
          · intro e he
            rcases List.mem_append.1 he with he | he
            · have hb := hLK.out.ent e he
              exact (((hset e.g (hb.ne_ hLK.out.blk (by decide))).trans (H6.out e.g (by have := hb.lt; omega) (hentA e he))).trans (H5.out e.g hb.lt (hentbm e he))).trans hb
            · obtain rfl := List.mem_singleton.1 he
              exact ((hset wr.heap.size (by omega)).trans (H6.out wr.heap.size (by omega) hnewA)).trans hnew5
          · rw [hlenK]
            exact own_at hown6 (hset g6 hg6br)
          · have hk := hLK.out.nodup
            simp only [keysL, List.map_append, List.map_cons, List.map_nil] at hk ⊢
            rw [List.nodup_append]
            refine ⟨hk, by simp, fun a ha b hb e' => ?_⟩
            obtain ⟨e, he, rfl⟩ := List.mem_map.1 ha
            exact hnot.out e (hsub.mem he) (by rw [e']; simpa using hb)
          · have hk := hLK.out.gs
            simp only [List.map_append, List.map_cons, List.map_nil]
            rw [List.nodup_append]
            refine ⟨hk, by simp, fun a ha b hb e' => ?_⟩
            obtain ⟨e, he, rfl⟩ := List.mem_map.1 ha
            have := (hLK.out.ent e he).lt
            have hb' : b = wr.heap.size := by simpa using hb
            omega
          · intro e he
            rcases List.mem_append.1 he with he | he
            · exact hLK.out.wf e he
            · obtain rfl := List.mem_singleton.1 he
              exact hx
          · refine ⟨hLK.out.base.1, hLK.out.base.2.1, fun e he => ?_⟩
            rcases List.mem_append.1 he with he | he
            · exact hLK.out.base.2.2 e he
            · obtain rfl := List.mem_singleton.1 he
              have := hLK.out.base.1
              show B ≤ wr.heap.size
              omega
        · rw [hp]
          refine IntsAt.of_holds (Holds.of_own (base := w1.heap.size) (e := 3) (n := outs.length) (c := co) (own_keep hrowO fun k hk1 hk2 => ?_))
          refine ((hset k (by have := HL1.out.blk.lt; omega)).trans (H6.out k (by omega) (fun ad had => by have := HA.out ad had; omega))).trans (H5.out k hk2 (by have := HL1.out.map.lt; omega))
        · have h3 := hLK.out.base.1
          have h4 := hLK.out.base.2.1
          refine HB1.out.trans (hbR.trans ?_)
          have b2 := (below_drewN (B := B) (Below.refl B wr) nq).alloc (by simp; omega) (.cells #[.string v, .bool false] 65)
          have b3 := (b2.grown HG5.out (by simp; omega) (fun q hq => by cases hq; exact h4)).alloc (by omega) (.cells #[.int .i64 x] 3)
          refine ((b3.grown HG6.out (by simp; omega) (fun q hq => ?_)).setCell (p := ⟨br, 3, none⟩) h3 _).setCell (p := ⟨br, 1, none⟩) h3 _
          cases A with
          | none => cases hq
          | some ad =>
            cases hq
            rcases hLK.out.row.2 with ⟨h0, _⟩ | ⟨g, cap, cur, hv, hBg, hc, _⟩
            · cases h0
            · cases hv
              exact hBg
      · have ht1 : decide ((M : Int) < (total K : Int) + (v.size : Int)) = true := decide_eq_true (by omega)
        cases hlo : looseI K with
        | none =>
          have hall := hid (loose_none hlo)
          have HLO := hid hlo
          have hrk := hid (show (0 : Int) = (K[K.length]?.map Ent.key).getD 0 ∧ false = (K[K.length]?).isSome by rw [List.getElem?_eq_none (Nat.le_refl _)]; exact ⟨rfl, rfl⟩)
          clear hlo
          go_wp2_with fail
          go_quiet (fail)
          have HV := hid (victim_any (i := K.length) (hid (hLK.out.drewN nq)) (Nat.le_refl _) (hid fun j e _ he => hall.out j e he) (hid fun e he => by rw [List.getElem?_eq_none (Nat.le_refl _)] at he; cases he) (by omega) hrk)
          go_wp2_with fail
          refine HV.out.mono ?_
          rintro r w3 ⟨rfl, rfl⟩
          go_wp2_with fail
          go_ret
          obtain ⟨_, hrowO, hbR, hsR, hsub, hev, hlenR, hkR⟩ := hR.out
          rw [evictL_stop HLO.out] at hev
          simp only [List.append_nil] at hev
          have hp : putL M L x v w.heap.size = (K, outs) := by
            unfold putL
            rw [if_neg hbig, ← HE1.out, hev, if_pos (show M < total K + v.size by omega)]
          refine ⟨A, c, w.heap.size, Ao, co, by rw [hp]; rfl, by rw [hp]; exact (hLK.out.drewN nq).moreN (by omega), ?_, HB1.out.trans (below_drewN hbR nq), (HK1.out.trans hkR HB1.out.size), NewAt.refl _ _, Nat.le_refl _⟩
          rw [hp]
          exact IntsAt.of_holds (Holds.of_own hrowO)
        | some i =>
          obtain ⟨e, he, hpf, hall⟩ := loose_some hlo
          have hil : i < K.length := (List.getElem?_eq_some_iff.1 he).1
          have HLO := hid hlo
          have HE := hid he
          have HALL := hid hall
          have hend : Hid (∀ e, K[i]? = some e → e.p = false) := hid fun e' he' => by rw [he] at he'; rw [← Option.some.inj he']; exact hpf
          have hrk := hid (show e.key = (K[i]?.map Ent.key).getD 0 ∧ true = (K[i]?).isSome by rw [he]; exact ⟨rfl, rfl⟩)
          clear hlo he hpf hall
          go_wp2_with fail
          go_quiet (fail)
          have hLq := hid (hLK.out.drewN nq)
          have HV := hid (victim_any (i := i) hLq (Nat.le_of_lt hil) (hid fun j e hj he => HALL.out j e hj he) hend (by omega) hrk)
          have HG2 := hid (gone_yes hLq HE.out (by omega))
          go_wp2_with fail
          refine HV.out.mono ?_
          rintro r w3 ⟨rfl, rfl⟩
          go_wp2_with fail
          refine HG2.out.mono ?_
          rintro r w3 ⟨rfl, hL3, hb3, hk3⟩
          have HL3 := hid hL3
          have HB3 := hid hb3
          have HK3 := hid hk3
          clear hL3 hb3 hk3
          have hsz := hid (show ((nums outs).length + [Value.int .i64 e.key].length) * 8 ≤ 140737488355328 by
            have := hR.out.2.2.2.2.2.2.1
            rw [nums_length]; simp; omega)
          have hnl := hid (nums_length outs)
          have hown3 : Hid (w3.ownsRow w1.heap.size 3 1 (.slice Ao outs.length co) (nums outs).length (nums outs)) := hid (by
            rw [hnl.out]
            exact own_keep hR.out.2.1 fun k hk1 hk2 => HK3.out k hk2 (by have := HL1.out.blk.lt; omega) (by have := HL1.out.map.lt; omega) (fun ad had => by have := HA.out ad had; omega))
          go_wp2_with (at_builtin; refine wpList_app _ rfl (.tmp 45) (.tmp 47) 33 3 (.int .i64 0) 8 rfl Try.underlying33 info3 rfl (by decide) w1.heap.size (.slice Ao outs.length co) (nums outs) rfl ?own (w3.alloc (.cells #[.int .i64 e.key] 3)).heap.size (some ⟨w3.heap.size, 0, none⟩) 1 1 [.int .i64 e.key] rfl rfl ?hold ?one hsz.out ?base ?_)
          case own => exact hown3.out.alloc _
          case hold => exact Holds.of_blk (Blk.new w3 3 #[.int .i64 e.key]) 0 1 (by simp)
          case one =>
            intro u hu
            simp only [List.mem_singleton] at hu
            subst hu
            rfl
          case base =>
            have h3 := hR.out.2.2.2.1
            have h4 := HB3.out.size
            simp at h4 ⊢
            omega
          intro v4 w4 hown4 hg4 hat4
          have HO4 := hid hown4
          have HG4 := hid hg4
          clear hown4 hg4 hat4
          go_wp2_with fail
          have h3 := hR.out.2.2.2.1
          have h4 := HB3.out.size
          simp at h4
          have h5 := HG4.out.size
          simp at h5
          have hown4 := HO4.out
          rw [hnl.out, show nums outs ++ [Value.int .i64 e.key] = nums (outs ++ [e.key]) by simp [nums]] at hown4
          have hk4 : ∀ k, k < w1.heap.size → w4.heap[k]? = w3.heap[k]? := fun k hk => (HG4.out.block k (by simp; omega) (fun e' => by have := own_ge hR.out.2.1 k e'.symm; omega)).trans (Below.heap_alloc _ _ _ (by omega))
          go_roundw
          case rel =>
            obtain ⟨_, hrowO, hbR, hsR, hsub, hev, hlenR, hkR⟩ := hR.out
            refine ⟨K.eraseIdx i, outs ++ [e.key], hid ⟨?_, by simpa using hown4, ?_, by omega, (List.eraseIdx_sublist _ _).trans hsub, ?_, ?_, ?_⟩⟩
            · refine HL3.out.keep (hk4 _ HL1.out.blk.lt) (hk4 _ HL1.out.map.lt) (fun z hz => hk4 _ (HL1.out.ent z (hsub.mem (List.mem_of_mem_eraseIdx hz))).lt) (fun ad had => hk4 _ (HA.out ad had))
            · exact ((hbR.trans (below_drewN (Below.refl B wr) nq)).trans HB3.out |>.alloc (by have := HL1.out.base.1; have := HL1.out.blk.lt; omega) _).grown HG4.out (by have := HL1.out.base.1; have := HL1.out.blk.lt; simp; omega) (fun q hq => by have := own_ge hrowO q hq; have := HL1.out.base.1; have := HL1.out.blk.lt; omega)
            · rw [hev, evictL_step (by omega) HLO.out HE.out]
              simp
            · rw [List.length_eraseIdx_of_lt hil]; simp; omega
            · exact fun k h0 h1 h2 h3' => (hk4 k h0).trans ((HK3.out k (by show k < wr.heap.size; omega) h1 h2 h3').trans (hkR k h0 h1 h2 h3'))
          case measure =>
            have := hR.out.2.2.2.2.2.2.1
            have := slen_own hown4
            simp [slen] at this ⊢
            rw [this]
            omega
end
end Go.Proofs.Ytehdclfmkeemgaa
