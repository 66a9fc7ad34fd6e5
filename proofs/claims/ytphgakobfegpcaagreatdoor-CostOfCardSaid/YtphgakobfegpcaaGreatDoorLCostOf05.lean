/- Cost: Of. The document's layers: how many pieces, what they cost. -/
import Derived.Deep.CutBlock
import Derived.BigQuiet
import Derived.Test.YtphgakobfegpcaaGreatDoorM27
import Derived.Test.YtphgakobfegpcaaGreatDoorM28
import Derived.Test.YtphgakobfegpcaaGreatDoorM31
import Derived.Test.YtphgakobfegpcaaGreatDoorLCostOf01
import Derived.Test.YtphgakobfegpcaaGreatDoorLCostOf03
import Derived.Test.YtphgakobfegpcaaGreatDoorLCostOf04
namespace Go.Proofs.YtphgakobfegpcaaGreatDoor
open Go.RowKit Go.Sort Go.Proofs

/-- What Of leaves. -/
def CoAt (E : Nat → Addr) (n : Nat) (code : List UInt8) (r : (BkV × Ls × Int) ⊕ (Nat × Nat)) (e : Ending) (w' : World) : Prop :=
  match r with
  | .inr f => ∃ v, e = .returned (.tuple #[.pointer none, .int .i64 0, v]) ∧ FltAt E (some f) v w'
  | .inl (B, ls, a) => if (fG B code).isSome = true then ∃ p g, e = .returned (.tuple #[.pointer (some ⟨p, 0, none⟩), .int .i64 a, .nilIface]) ∧ Lay w' p g ls ∧ n ≤ p ∧ n ≤ g
    else e = .returned (.tuple #[.pointer none, .int .i64 0, errOf E 6])
def IsI (a : Int) : Prop := -9223372036854775808 ≤ a ∧ a ≤ 9223372036854775807
theorem wrap_isI (a : Int) : IsI (IntKind.i64.wrap a) := by
  unfold IsI
  rw [IntKind.wrap_i64]
  omega
theorem IsI.wrap {a : Int} (h : IsI a) : IntKind.i64.wrap (a + ((0 : Nat) : Int)) = a := by
  unfold IsI at h
  rw [Int.natCast_zero, Int.add_zero]
  exact wrap_small h.1 h.2
theorem coLot_none {B : BkV} {code : List UInt8} {x : EntV} (h : coLot B code x = none) (ls : Ls) : coE B ls code x = 0 ∧ coS B ls code x = ls ∧ coN B ls code x = 0 := by
  unfold coE coS coN
  rw [h]
  exact ⟨rfl, rfl, rfl⟩
theorem coLot_some {B : BkV} {code : List UInt8} {x : EntV} {y : LotV} (h : coLot B code x = some y) (ls : Ls) : coE B ls code x = flowE ls x y.2.2.2 ∧ coS B ls code x = flowS ls x y.2.2.2 ∧ coN B ls code x = flowN ls x := by
  unfold coE coS coN
  rw [h]
  exact ⟨rfl, rfl, rfl⟩
/-- The lot of an entry: none, one of other goods, one of these. -/
theorem coLot_cases (B : BkV) (code : List UInt8) (x : EntV) : (lotsF B x.2.2.1.1 = none ∧ coLot B code x = none) ∨ ∃ y, lotsF B x.2.2.1.1 = some y ∧ ((y.2.1 ≠ code ∧ coLot B code x = none) ∨ (y.2.1 = code ∧ coLot B code x = some y)) := by
  unfold lotsF coLot
  cases h : fL B x.2.2.1.1 with
  | none => exact .inl ⟨rfl, rfl⟩
  | some y =>
    refine .inr ⟨y.1, rfl, ?_⟩
    by_cases hc : y.1.2.1 = code
    · exact .inr ⟨hc, by simp [Option.filter, hc]⟩
    · exact .inl ⟨hc, by simp [Option.filter, hc]⟩

set_option maxHeartbeats 3200000 in
set_option maxRecDepth 100000 in
theorem costOf_any (E : Nat → Addr) (A : Option Addr) (cap : Nat) (l : List EntV) (code : List UInt8) (w : World) (hrow : RowAt encEnt 14 w A l) (hl : l.length ≤ 1000) (hs : ∀ x ∈ l, ShortE x) (hG : BkG E w) :
    Calls Tryz.prog 11 #[.slice A l.length cap, .string ⟨code.toArray⟩] w fun e w' => CoAt E w.heap.size code (coGo code bk0 [] 0 0 l) e w' ∧ Below w.heap.size w w' := by
  have HG := Lib.hid (fun W (h : Below w.heap.size w W) => hG.below h)
  have HR := Lib.hid (fun W (h : Below w.heap.size w W) => hrow.below h)
  have HSH := Lib.hid hs
  have HST := Lib.hid (coGo_step code)
  obtain ⟨r, hr⟩ : ∃ r, r = coGo code bk0 [] 0 0 l := ⟨_, rfl⟩
  have HR0 := Lib.hid hr
  rw [← hr]
  obtain ⟨N, hN⟩ : ∃ N, N = l.length := ⟨_, rfl⟩
  have HN := Lib.hid hN
  rw [← hN] at hl ⊢
  clear hG hrow hs hN hr
  go_enter Tryz.func11, Tryz.ntmps11
  go_wp2_with fail
  refine (newBook_any w).mono ?_
  rintro e w1 ⟨p, F0, rfl, hB1, hF1, b1⟩
  have HB1 := Lib.hid hB1
  have HF1 := Lib.hid hF1
  have B1 := Lib.hid b1
  clear hB1 hF1 b1
  go_wp2_with fail
  refine (new_any w1).mono ?_
  rintro e w2 ⟨rfl, rfl⟩
  have b2 := below_one w1 (.cells #[.slice none 0 0] 120)
  have hx2 := heap_alloc_new w1 (.cells #[.slice none 0 0] 120)
  have B2 := Lib.hid (B1.out.trans (b2.mono B1.out.size))
  have HI2 : Hid (∃ F g, BookIs (w1.alloc (.cells #[.slice none 0 0] 120)) p F bk0 ∧ Lay (w1.alloc (.cells #[.slice none 0 0] 120)) w1.heap.size g [] ∧ (∀ j ∈ F, w.heap.size ≤ j) ∧ w.heap.size ≤ g ∧ w1.heap.size ∉ F ∧ g ∉ F) := by
    have hn : w1.heap.size ∉ F0 := fun h => by have := HB1.out.lt _ h; omega
    exact ⟨F0, w1.heap.size, HB1.out.below b2, .inl ⟨rfl, rfl, hx2⟩, HF1.out, B1.out.size, hn, hn⟩
  have hpx : w.heap.size ≤ w1.heap.size := B1.out.size
  generalize w1.alloc (.cells #[.slice none 0 0] 120) = W2 at B2 HI2 ⊢
  generalize w1.heap.size = px at HI2 hpx ⊢
  clear b2 hx2 HB1 HF1 B1
  go_wp2_with fail
  go_loopw [9, 22] (fun al i wr => ∃ (k : Nat) (Bk : BkV) (ls : Ls) (a : Int), k ≤ N ∧ i = .int .i64 k ∧ al = .int .i64 a ∧ Hid (IsI a) ∧ Hid (r = coGo code Bk ls a k (l.drop k)) ∧ Hid (BkI Bk) ∧ Hid (OkL ls ∧ ls.length ≤ k) ∧
    Hid (∃ F g, BookIs wr p F Bk ∧ Lay wr px g ls ∧ (∀ j ∈ F, w.heap.size ≤ j) ∧ w.heap.size ≤ g ∧ px ∉ F ∧ g ∉ F) ∧ Hid (Below w.heap.size w wr)) (fun _ i _ => N - (intOf i).toNat)
  case atStart => exact ⟨0, bk0, [], 0, by omega, rfl, rfl, (by show IsI 0; unfold IsI; omega), HR0.out, BkI.nil, ⟨⟨by simp [hasL], by simp, by simp⟩, by simp⟩, HI2.out, B2.out⟩
  case round =>
    obtain ⟨k, Bk, ls, a, hk, rfl, rfl, HIA, HRK, HBI, HOL, HBL, HB⟩ := hrel
    by_cases hkN : k < N
    · have hkx : k < l.length := by rw [← HN.out]; exact hkN
      obtain ⟨F, gl, hbk, hlay, hF, hgl, hpF, hgF⟩ := HBL.out
      obtain ⟨g, o, rfl, lg, cg⟩ := HR.out wr HB.out |>.resolve_left (fun h => by rw [h] at hkx; simp at hkx)
      obtain ⟨x, hx⟩ : ∃ x, x = l[k] := ⟨_, rfl⟩
      have hlies : Lies wr g (o + k * 14) (encEnt x) := fun j v hv => cg k hkx j v (by rw [← hx]; exact hv)
      have hsx := HSH.out x (by rw [hx]; exact List.getElem_mem hkx)
      have hst := HST.out Bk ls a l k hkx
      rw [← hx] at hst
      have HRK1 := Lib.hid (HRK.out.trans hst)
      obtain ⟨_, s1, s2, _, _⟩ := hsx
      have hba := below_one wr (.cells #[.string ⟨#[]⟩, .string ⟨#[]⟩, .int .i64 0, .string ⟨#[]⟩, .string ⟨#[]⟩, .int .i64 0, .int .i64 0, .string ⟨#[]⟩, .int .i64 0, .int .i64 0, .string ⟨#[]⟩, .int .i64 0, .int .i64 0, .int .i64 0] 69)
      have HD := Lib.hid (fun W (hb : Below wr.heap.size wr W) => do_any E x (hbk.below hb) HBI.out (by omega) (by omega) (HG.out W (HB.out.trans (hb.mono HB.out.size))))
      have HCC := Lib.hid (coLot_cases (doB Bk x) code x)
      have HC0 := Lib.hid (fun h => coLot_none (B := doB Bk x) (code := code) (x := x) h ls)
      have HC1 := Lib.hid (fun y h => coLot_some (B := doB Bk x) (code := code) (x := x) (y := y) h ls)
      have HSO := Lib.hid (coS_ok (B := doB Bk x) (code := code) (x := x) HOL.out.1)
      have HET := Lib.hid (coE_tw (doB Bk x) ls code x)
      have HBN := Lib.hid (HBI.out.do_ x)
      have HFL := Lib.hid (fun c W h1 h2 h3 => flow_any E px gl ls x c W h1 h2 h3 HOL.out.1 (by have := HOL.out.2; omega))
      have HLT := Lib.hid hbk.lt
      have HLL := Lib.hid hlay
      have HL := Lib.hid hlies
      have HF1 := Lib.hid hF
      have HPF := Lib.hid (And.intro hpF hgF)
      have h14 : (encEnt x).length = 14 := rfl
      have HE1 := Lib.hid (encEnt_one x)
      have e3 : (encEnt x)[3]? = some (.string ⟨x.2.2.1.1.toArray⟩) := rfl
      clear hx cg hlies hbk hlay hF hpF hgF hst HBL HRK s1 s2
      generalize doE Bk x = de at HRK1 HD
      generalize doB Bk x = Bn at HRK1 HD HCC HC0 HC1 HSO HET HBN
      generalize x.2.2.1.1 = id at HCC e3
      generalize encEnt x = LX at HL HD h14 HE1 e3 HFL
      go_upto_region 5 with (first | (refine wpList_load_at rfl 69 _ rfl g (o + k * 14) rfl LX HL.out _ Tryz.underlying69 rfl (by rw [h14]; kernel_rfl) ?_) | (refine wpList_store_box rfl 69 _ _ rfl wr.heap.size LX rfl rfl _ [.string ⟨#[]⟩, .string ⟨#[]⟩, .int .i64 0, .string ⟨#[]⟩, .string ⟨#[]⟩, .int .i64 0, .int .i64 0, .string ⟨#[]⟩, .int .i64 0, .int .i64 0, .string ⟨#[]⟩, .int .i64 0, .int .i64 0, .int .i64 0] (heap_alloc_new wr _) (by rw [h14]; kernel_rfl) (by rw [h14]; rfl) HE1.out ?_; intro w5 h5 tu5))
      have b5 := hba.trans (tu5.below (Nat.le_refl _))
      have B5 := Lib.hid (HB.out.trans (b5.mono HB.out.size))
      have H5 := Lib.hid h5
      have hd5 := HD.out w5 b5
      have HD5 := Lib.hid hd5
      have HL5 := Lib.hid (HLL.out.below b5)
      have hz5 := row_lt h5
      have hzs := b5.size
      clear b5 tu5 hba HD hd5 HLL HL HR
      go_upto_region 6 with (refine wpList_load_at rfl 69 _ rfl wr.heap.size 0 rfl LX (Lies.row _ H5.out) _ Tryz.underlying69 rfl (by rw [h14]; kernel_rfl) ?_)
      refine HD5.out.mono ?_
      rintro e w6 ⟨rfl, ⟨F6, hb6, hf6⟩, bf6⟩
      have hnF : wr.heap.size ∉ F := fun h => by have := HLT.out _ h; omega
      have h6 := (bf6.block _ hz5 hnF).trans h5
      have B6 := Lib.hid (B5.out.trans (bf6.below B5.out.size HF1.out))
      have HL6 := Lib.hid (HL5.out.butF bf6 HPF.out.1 HPF.out.2)
      have H6 := Lib.hid h6
      have hz6 := bf6.size
      have HBK6 := Lib.hid hb6
      have HF6 : Hid ((∀ j ∈ F6, w.heap.size ≤ j) ∧ px ∉ F6 ∧ gl ∉ F6) := by
        have hB5 := B5.out.size
        have hl5 := HL5.out.lt
        refine ⟨fun j hj => ?_, fun hj => ?_, fun hj => ?_⟩
        · rcases hf6 j hj with h | h
          · exact HF1.out j h
          · omega
        · rcases hf6 _ hj with h | h
          · exact HPF.out.1 h
          · omega
        · rcases hf6 _ hj with h | h
          · exact HPF.out.2 h
          · omega
      have hid6 : w6.cell? ⟨wr.heap.size, 3, none⟩ = some (.string ⟨id.toArray⟩) := (cell_of_row _ _ _ _ _ _ h6).trans (by simpa using e3)
      have HLO := Lib.hid (lotBk_any hb6 id)
      clear hb6 hf6 bf6 h5 h6 HD5 HL5 HPF HF1 HLT H5 hnF B5
      go_wp2_with fail
      refine HLO.out.mono ?_
      rintro e w7 ⟨rfl, b7⟩
      have B7 := Lib.hid (B6.out.trans (b7.mono B6.out.size))
      have hx7 := (b7.block _ (by omega)).trans H6.out
      have H7 := Lib.hid hx7
      have HL7 := Lib.hid (HL6.out.below b7)
      have HBK7 := Lib.hid (HBK6.out.below b7)
      have hz7 := b7.size
      clear b7 hid6 HLO H6 HL6 HBK6 B6
      obtain ⟨z, hz⟩ : ∃ z, z = (lotsF Bn id).getD zeroLot := ⟨_, rfl⟩
      obtain ⟨is, his⟩ : ∃ is, is = (lotsF Bn id).isSome := ⟨_, rfl⟩
      rw [← hz, ← his]
      have hz4 : (encLot z).length = 4 := rfl
      have HZ1 := Lib.hid (encLot_one z)
      have HZ := Lib.hid hz
      have HIS := Lib.hid his
      have hba8 := below_one w7 (.cells #[.string ⟨#[]⟩, .string ⟨#[]⟩, .int .i64 0, .int .i64 0] 65)
      obtain ⟨LZ, hLZ⟩ : ∃ LZ, LZ = encLot z := ⟨_, rfl⟩
      have HLZ := Lib.hid hLZ
      rw [← hLZ] at hz4 HZ1 ⊢
      clear hz his hLZ
      go_upto_region 7 with (refine wpList_store_box rfl 65 _ _ rfl w7.heap.size LZ rfl rfl _ [.string ⟨#[]⟩, .string ⟨#[]⟩, .int .i64 0, .int .i64 0] (heap_alloc_new w7 _) (by rw [hz4]; kernel_rfl) (by rw [hz4]; rfl) HZ1.out ?_; intro w8 h8 tu8)
      have b8 := hba8.trans (tu8.below (Nat.le_refl _))
      have B8 := Lib.hid (B7.out.trans (b8.mono B7.out.size))
      have H8 := Lib.hid ((b8.block _ (by omega)).trans H7.out)
      have HL8 := Lib.hid (HL7.out.below b8)
      have HBK8 := Lib.hid (HBK7.out.below b8)
      have HY8 := Lib.hid h8
      clear b8 tu8 hba8 h8 B7 H7 HL7 HBK7
      by_cases h0 : de = 0
      · subst h0
        rw [errOf_zero]
        have HRK2 := Lib.hid (HRK1.out.trans (if_neg (by simp)))
        clear HRK1
        have stay : coLot Bn code x = none → Hid (∃ (k' : Nat) (Bk : BkV) (ls : Ls) (a' : Int), k' ≤ N ∧ (Value.int .i64 ((k : Int) + 1)) = .int .i64 k' ∧ (Value.int .i64 a) = .int .i64 a' ∧ Hid (IsI a') ∧ Hid (r = coGo code Bk ls a' k' (l.drop k')) ∧ Hid (BkI Bk) ∧ Hid (OkL ls ∧ ls.length ≤ k') ∧
            Hid (∃ F g, BookIs w8 p F Bk ∧ Lay w8 px g ls ∧ (∀ j ∈ F, w.heap.size ≤ j) ∧ w.heap.size ≤ g ∧ px ∉ F ∧ g ∉ F) ∧ Hid (Below w.heap.size w w8)) := fun hc => by
          obtain ⟨c1, c2, c3⟩ := HC0.out hc
          have h := HRK2.out
          rw [c1, c2, c3, if_neg (by simp), HIA.out.wrap] at h
          refine ⟨k + 1, Bn, ls, a, by omega, by congr 1, rfl, HIA.out, h, HBN.out, ⟨HOL.out.1, by have := HOL.out.2; omega⟩, ⟨F6, gl, HBK8.out, HL8.out, HF6.out.1, hgl, HF6.out.2.1, HF6.out.2.2⟩, B8.out⟩
        have HSTAY := Lib.hid stay
        clear stay
        rcases HCC.out with ⟨hf, hc⟩ | ⟨y, hf, ⟨hne, hc⟩ | ⟨heq, hc⟩⟩
        · have hisf : is = false := by rw [HIS.out, hf]; rfl
          have HS := Lib.hid (HSTAY.out hc)
          subst hisf
          clear hf hc HSTAY HCC HC0 HC1 HIS HZ
          go_wp2_with fail
          go_roundw
          case rel => exact HS.out
          case measure => simp [intOf]; omega
        · have hist : is = true := by rw [HIS.out, hf]; rfl
          have hzy : z = y := by rw [HZ.out, hf]; rfl
          have HS := Lib.hid (HSTAY.out hc)
          subst hist
          subst hzy
          have hcb : (z.2.1 == code) = false := by simpa using hne
          have e1 : w8.cell? ⟨w7.heap.size, 1, none⟩ = some (.string ⟨z.2.1.toArray⟩) := (cell_of_row _ _ _ _ _ _ HY8.out).trans (by rw [HLZ.out]; rfl)
          clear hf hc HSTAY HCC HC0 HC1 HIS HZ hne
          go_wp2_with fail
          go_roundw
          case rel => exact HS.out
          case measure => simp [intOf]; omega
        · have hist : is = true := by rw [HIS.out, hf]; rfl
          have hzy : z = y := by rw [HZ.out, hf]; rfl
          subst hist
          subst hzy
          have hcb : (z.2.1 == code) = true := by simpa using heq
          have e1 : w8.cell? ⟨w7.heap.size, 1, none⟩ = some (.string ⟨z.2.1.toArray⟩) := (cell_of_row _ _ _ _ _ _ HY8.out).trans (by rw [HLZ.out]; rfl)
          have e3 : w8.cell? ⟨w7.heap.size, 3, none⟩ = some (.int .i64 z.2.2.2) := (cell_of_row _ _ _ _ _ _ HY8.out).trans (by rw [HLZ.out]; rfl)
          obtain ⟨c1, c2, c3⟩ := HC1.out z hc
          have h := HRK2.out
          have hso := HSO.out
          rw [c1, c2, c3] at h
          rw [c2] at hso
          have HSO2 := Lib.hid hso
          have HRK3 := Lib.hid h
          have hbg := (HG.out w8 B8.out).stk
          have HF8 := Lib.hid (HFL.out z.2.2.2 w8 hbg.place.bound hbg.short HL8.out)
          clear hf hc HSTAY HCC HC0 HC1 HIS HZ heq h hso hbg c1 c2 c3 HRK2 HFL HLZ HSO
          generalize flowE ls x z.2.2.2 = fe at HF8 HRK3
          generalize flowS ls x z.2.2.2 = fs at HF8 HRK3 HSO2
          generalize flowN ls x = fn at HF8 HRK3
          obtain ⟨a2, ha2⟩ : ∃ a2, a2 = IntKind.i64.wrap (a + (fn : Nat)) := ⟨_, rfl⟩
          have HIA2 : Hid (IsI a2) := by show IsI a2; rw [ha2]; exact wrap_isI _
          have hwr : IntKind.i64.wrap (a + (fn : Nat)) = a2 := ha2.symm
          rw [hwr] at HRK3
          clear ha2
          go_wp2_with (refine wpList_load_at rfl 69 _ rfl wr.heap.size 0 rfl LX (Lies.row _ H8.out) _ Tryz.underlying69 rfl (by rw [h14]; kernel_rfl) ?_)
          refine HF8.out.mono ?_
          rintro e w9 ⟨rfl, g9, hl9, ho9, hg9⟩
          have B9 := Lib.hid (B8.out.trans ((onlyF ho9).below B8.out.size (by
            intro i hi
            simp only [List.mem_cons, List.not_mem_nil, or_false] at hi
            rcases hi with rfl | rfl
            · exact hpx
            · exact hgl)))
          have HL9 := Lib.hid hl9
          have HBK9 := Lib.hid (HBK8.out.butF (onlyF ho9) (fun j hj hm => by
            simp only [List.mem_cons, List.not_mem_nil, or_false] at hm
            rcases hm with rfl | rfl
            · exact HF6.out.2.1 hj
            · exact HF6.out.2.2 hj))
          have HG9 : Hid (w.heap.size ≤ g9 ∧ g9 ∉ F6) := by
            rcases hg9 with h | h
            · rw [h]; exact ⟨hgl, HF6.out.2.2⟩
            · exact ⟨by have := B8.out.size; omega, fun hf => by have := HBK8.out.lt _ hf; omega⟩
          clear hl9 ho9 hg9 HF8 HBK8 HL8 e1 e3 HY8 H8
          by_cases hfe : fe = 0
          · subst hfe
            rw [errOf_zero]
            have HRK4 := Lib.hid (HRK3.out.trans (if_neg (by simp)))
            clear HRK3
            go_wp2_with fail
            go_roundw
            case rel => exact ⟨k + 1, Bn, fs, a2, by omega, by go_num, rfl, HIA2.out, HRK4.out, HBN.out, ⟨HSO2.out.1, by have := HSO2.out.2; have := HOL.out.2; omega⟩, ⟨F6, g9, HBK9.out, HL9.out, HF6.out.1, HG9.out.1, HF6.out.2.1, HG9.out.2⟩, B9.out⟩
            case measure => simp [intOf]; omega
          · have HRK4 := Lib.hid (HRK3.out.trans (if_pos hfe))
            clear HRK3
            rw [errOf_pos _ _ hfe]
            have hb := Lib.hid (heap_alloc_new w9 (.cells #[.int .i64 (k : Nat), .iface 326 (.pointer (some (E fe)))] 98))
            have bb := Lib.hid (below_one w9 (.cells #[.int .i64 (k : Nat), .iface 326 (.pointer (some (E fe)))] 98))
            have HZ := Lib.hid hfe
            clear hfe
            go_wp2_with fail
            go_ret3
            refine ⟨?_, B9.out.trans (bb.out.mono B9.out.size)⟩
            rw [HRK4.out]
            exact ⟨_, rfl, HZ.out, _, rfl, by rw [errOf_pos _ _ HZ.out]; exact hb.out⟩
      · have HRK2 := Lib.hid (HRK1.out.trans (if_pos h0))
        clear HRK1 HCC HC0 HC1 HSO HFL
        rw [errOf_pos _ _ h0]
        have hb := Lib.hid (heap_alloc_new w8 (.cells #[.int .i64 (k : Nat), .iface 326 (.pointer (some (E de)))] 98))
        have bb := Lib.hid (below_one w8 (.cells #[.int .i64 (k : Nat), .iface 326 (.pointer (some (E de)))] 98))
        have HZ := Lib.hid h0
        clear h0
        go_wp2_with fail
        go_ret3
        refine ⟨?_, B8.out.trans (bb.out.mono B8.out.size)⟩
        rw [HRK2.out]
        exact ⟨_, rfl, HZ.out, _, rfl, by rw [errOf_pos _ _ HZ.out]; exact hb.out⟩
    · obtain rfl : k = N := by omega
      have HRK1 : Hid (r = .inl (Bk, ls, a)) := by
        show _ = _
        rw [HRK.out, HN.out, List.drop_length]
        rfl
      obtain ⟨F, gl, hbk, hlay, hF, hgl, hpF, hgF⟩ := HBL.out
      have HP := Lib.hid (packBk_any hbk code)
      have HLL := Lib.hid hlay
      clear hbk hlay hF hpF hgF HRK HBL
      go_wp2_with fail
      refine HP.out.mono ?_
      rintro e w7 ⟨⟨n, rfl⟩, b7⟩
      have B7 := Lib.hid (HB.out.trans (b7.mono HB.out.size))
      have HL7 := Lib.hid (HLL.out.below b7)
      clear b7 HP HLL
      cases hs : (fG Bk code).isSome with
      | true =>
        have HS := Lib.hid hs
        clear hs
        go_wp2_with fail
        go_ret3
        refine ⟨?_, B7.out⟩
        rw [HRK1.out]
        unfold CoAt
        simp only
        rw [if_pos HS.out]
        exact ⟨px, gl, rfl, HL7.out, hpx, hgl⟩
      | false =>
        have HS := Lib.hid hs
        have hg6 := (HG.out w7 B7.out).none
        unfold ErrAt at hg6
        clear hs
        go_wp2_with fail
        go_quiet (fail)
        go_wp2_with fail
        go_ret3
        refine ⟨?_, below_drewN B7.out _⟩
        rw [HRK1.out]
        unfold CoAt
        simp only
        rw [if_neg (by rw [HS.out]; simp)]
        rfl
end Go.Proofs.YtphgakobfegpcaaGreatDoor
namespace Go.Proofs.YtphgakobfegpcaaGreatDoor
open Go.RowKit

set_option maxHeartbeats 400000 in
theorem rhas_any (p g : Nat) (ls : Ls) (w : World) (hL : LayR w p g ls) (hk : OkL ls) (hlen : ls.length ≤ 1000000) :
    Calls Tryz.prog 106 #[.pointer (some ⟨p, 0, none⟩)] w fun e w' => e = .returned (.int .i64 (hasL ls : Nat)) ∧ Below w.heap.size w w' := by
  obtain ⟨A, cap, hA, hc1, hc2, hcell⟩ := hL.reads
  have hh := hk.has
  clear hL hk
  have HC := Lib.hid hcell
  clear hcell
  go_enter Tryz.func106, Tryz.ntmps106
  go_wp2
  go_loopw [3, 4] (fun n i wr => ∃ k : Nat, k ≤ ls.length ∧ i = .int .i64 k ∧ n = .int .i64 (hasL (ls.take k) : Nat) ∧ wr = w) (fun _ i _ => ls.length - (intOf i).toNat)
  case atStart => exact ⟨0, by omega, rfl, rfl, rfl⟩
  case round =>
    obtain ⟨k, hk, rfl, rfl, rfl⟩ := hrel
    have hle := hasL_le ls k
    by_cases hkl : k < ls.length
    · obtain ⟨off, rfl, hcells⟩ := HC.out (by omega)
      obtain ⟨c1, c2⟩ := hcells k hkl
      have hts := hasL_take ls k hkl
      have hle1 := hasL_le ls (k + 1)
      have hsum : hasL (ls.take k) + ls[k].1 ≤ 1099511627776 := by omega
      have HT := Lib.hid hts
      clear hcells hts
      go_wp2
      exact ⟨⟨k + 1, by omega, by simp, by rw [HT.out]; simp, trivial⟩, by simp [intOf]; omega⟩
    · have hkn : ls.length ≤ k := by omega
      have HT := Lib.hid (show ls.take k = ls from List.take_of_length_le hkn)
      go_wp2
      go_ret
      refine ⟨?_, Below.refl _ _⟩
      show Ending.returned (.int .i64 (hasL (ls.take k) : Nat)) = _
      rw [HT.out]

set_option maxHeartbeats 400000 in
theorem rworth_any (p g : Nat) (ls : Ls) (w : World) (hL : LayR w p g ls) (hk : OkL ls) (hlen : ls.length ≤ 1000000) :
    Calls Tryz.prog 107 #[.pointer (some ⟨p, 0, none⟩)] w fun e w' => e = .returned (.int .i64 (worthL ls : Nat)) ∧ Below w.heap.size w w' := by
  obtain ⟨A, cap, hA, hc1, hc2, hcell⟩ := hL.reads
  have hh := hk.worth
  clear hL hk
  have HC := Lib.hid hcell
  clear hcell
  go_enter Tryz.func107, Tryz.ntmps107
  go_wp2
  go_loopw [3, 4] (fun n i wr => ∃ k : Nat, k ≤ ls.length ∧ i = .int .i64 k ∧ n = .int .i64 (worthL (ls.take k) : Nat) ∧ ∃ m, wr = w.drewN m) (fun _ i _ => ls.length - (intOf i).toNat)
  case atStart => exact ⟨0, by omega, rfl, rfl, 0, rfl⟩
  case round =>
    obtain ⟨k, hk, rfl, rfl, m, rfl⟩ := hrel
    have hle := worthL_le ls k
    by_cases hkl : k < ls.length
    · obtain ⟨off, rfl, hcells⟩ := HC.out (by omega)
      obtain ⟨c1, c2⟩ := hcells k hkl
      have hts := worthL_take ls k hkl
      have hle1 := worthL_le ls (k + 1)
      have hsum : worthL (ls.take k) + ls[k].1 * ls[k].2 ≤ 1152921504606846976 := by omega
      have p0 : (0 : Int) ≤ (ls[k].1 : Int) * (ls[k].2 : Int) := Int.mul_nonneg (by omega) (by omega)
      have p2 : ((ls[k].1 * ls[k].2 : Nat) : Int) = (ls[k].1 : Int) * (ls[k].2 : Int) := by simp
      have p1 : (worthL (ls.take k) : Int) + (ls[k].1 : Int) * (ls[k].2 : Int) ≤ 1152921504606846976 := by omega
      clear p2 hsum
      have HT := Lib.hid hts
      clear hcells hts
      go_wp2_with fail
      go_quiet (fail)
      go_wp2
      exact ⟨⟨k + 1, by omega, by simp, by rw [HT.out]; simp, _, rfl⟩, by simp [intOf]; omega⟩
    · have hkn : ls.length ≤ k := by omega
      have HT := Lib.hid (show ls.take k = ls from List.take_of_length_le hkn)
      go_wp2
      go_ret
      refine ⟨?_, below_drewN (Below.refl _ _) _⟩
      show Ending.returned (.int .i64 (worthL (ls.take k) : Nat)) = _
      rw [HT.out]
end Go.Proofs.YtphgakobfegpcaaGreatDoor
