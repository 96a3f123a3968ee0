/- Helping texts: Ct, De. -/
import Derived.Test.YtkmlhdfpcjkekaaGreatKAx
import Derived.Test.YtkmlhdfpcjkekaaGreatKAr
set_option linter.unusedSimpArgs false
set_option linter.unusedVariables false
set_option maxRecDepth 100000
set_option maxHeartbeats 16000000
namespace Go.Av
open Go.RowKit
open Go.Proofs.Tryz (prog)
theorem RT:tyOf prog 1=some ⟨1,8,[.nilFunc],.one,false⟩∧
 tyOf prog 2=some ⟨1,8,[.int .i64 0],.int .i64,false⟩∧
 tyOf prog 3=some ⟨1,8,[.int .i64 0],.int .i64,false⟩∧
 tyOf prog 4=some ⟨1,1,[.bool false],.bool,false⟩∧
 tyOf prog 5=some ⟨1,1,[.int .u8 0],.int .u8,false⟩∧
 tyOf prog 9=some ⟨1,16,[.string ⟨#[]⟩],.str,false⟩∧
 tyOf prog 21=some ⟨1,4,[.int .i32 0],.int .i32,false⟩∧
 tyOf prog 22=some ⟨1,24,[.slice none 0 0],.slice 37,false⟩∧
 tyOf prog 23=some ⟨1,24,[.slice none 0 0],.slice 22,false⟩∧
 tyOf prog 24=some ⟨2,48,[.slice none 0 0,.slice none 0 0],.struct [(22,0,"Outer"),(23,1,"Holes")],false⟩∧
 tyOf prog 25=some ⟨2,48,[.slice none 0 0,.slice none 0 0],.struct [(22,0,"Outer"),(23,1,"Holes")],false⟩∧
 tyOf prog 26=some ⟨1,8,[.nilFunc],.one,false⟩∧
 tyOf prog 27=some ⟨1,8,[.nilFunc],.one,false⟩∧
 tyOf prog 28=some ⟨1,24,[.slice none 0 0],.slice 39,false⟩∧
 tyOf prog 29=some ⟨1,8,[.int .i64 0],.int .i64,false⟩∧
 tyOf prog 31=some ⟨1,8,[.nilFunc],.one,false⟩∧
 tyOf prog 33=some ⟨1,8,[.nilFunc],.one,false⟩∧
 tyOf prog 34=some ⟨3,40,[.bool false,.string ⟨#[]⟩,.string ⟨#[]⟩],.struct [(4,0,"Neg"),(9,1,"Num"),(9,2,"Den")],false⟩∧
 tyOf prog 35=some ⟨3,40,[.bool false,.string ⟨#[]⟩,.string ⟨#[]⟩],.struct [(4,0,"Neg"),(9,1,"Num"),(9,2,"Den")],false⟩∧
 tyOf prog 36=some ⟨6,80,[.bool false,.string ⟨#[]⟩,.string ⟨#[]⟩,.bool false,.string ⟨#[]⟩,.string ⟨#[]⟩],.struct [(35,0,"X"),(35,3,"Y")],false⟩∧
 tyOf prog 37=some ⟨6,80,[.bool false,.string ⟨#[]⟩,.string ⟨#[]⟩,.bool false,.string ⟨#[]⟩,.string ⟨#[]⟩],.struct [(35,0,"X"),(35,3,"Y")],false⟩∧
 tyOf prog 38=some ⟨12,160,[.bool false,.string ⟨#[]⟩,.string ⟨#[]⟩,.bool false,.string ⟨#[]⟩,.string ⟨#[]⟩,.bool false,.string ⟨#[]⟩,.string ⟨#[]⟩,.bool false,.string ⟨#[]⟩,.string ⟨#[]⟩],.struct [(37,0,"A"),(37,6,"B")],false⟩∧
 tyOf prog 39=some ⟨12,160,[.bool false,.string ⟨#[]⟩,.string ⟨#[]⟩,.bool false,.string ⟨#[]⟩,.string ⟨#[]⟩,.bool false,.string ⟨#[]⟩,.string ⟨#[]⟩,.bool false,.string ⟨#[]⟩,.string ⟨#[]⟩],.struct [(37,0,"A"),(37,6,"B")],false⟩∧
 tyOf prog 40=some ⟨1,8,[.nilFunc],.one,false⟩∧
 tyOf prog 41=some ⟨1,8,[.nilFunc],.one,false⟩∧
 tyOf prog 42=some ⟨1,8,[.nilFunc],.one,false⟩∧
 tyOf prog 43=some ⟨1,8,[.nilFunc],.one,false⟩∧
 tyOf prog 45=some ⟨1,8,[.nilFunc],.one,false⟩∧
 tyOf prog 46=some ⟨1,8,[.nilFunc],.one,false⟩∧
 tyOf prog 47=some ⟨1,8,[.nilFunc],.one,false⟩∧
 tyOf prog 48=some ⟨1,8,[.nilFunc],.one,false⟩∧
 tyOf prog 49=some ⟨1,24,[.slice none 0 0],.slice 62,false⟩∧
 tyOf prog 51=some ⟨1,8,[.nilFunc],.one,false⟩∧
 tyOf prog 53=some ⟨1,8,[.nilFunc],.one,false⟩∧
 tyOf prog 54=some ⟨1,8,[.nilFunc],.one,false⟩∧
 tyOf prog 55=some ⟨1,8,[.nilFunc],.one,false⟩∧
 tyOf prog 56=some ⟨1,8,[.nilFunc],.one,false⟩∧
 tyOf prog 57=some ⟨1,8,[.nilFunc],.one,false⟩∧
 tyOf prog 59=some ⟨1,8,[.nilFunc],.one,false⟩∧
 tyOf prog 60=some ⟨1,8,[.nilFunc],.one,false⟩∧
 tyOf prog 61=some ⟨18,240,[.bool false,.string ⟨#[]⟩,.string ⟨#[]⟩,.bool false,.string ⟨#[]⟩,.string ⟨#[]⟩,.bool false,.string ⟨#[]⟩,.string ⟨#[]⟩,.bool false,.string ⟨#[]⟩,.string ⟨#[]⟩,.bool false,.string ⟨#[]⟩,.string ⟨#[]⟩,.bool false,.string ⟨#[]⟩,.string ⟨#[]⟩],.struct [(37,0,"A"),(37,6,"B"),(37,12,"C")],false⟩∧
 tyOf prog 62=some ⟨18,240,[.bool false,.string ⟨#[]⟩,.string ⟨#[]⟩,.bool false,.string ⟨#[]⟩,.string ⟨#[]⟩,.bool false,.string ⟨#[]⟩,.string ⟨#[]⟩,.bool false,.string ⟨#[]⟩,.string ⟨#[]⟩,.bool false,.string ⟨#[]⟩,.string ⟨#[]⟩,.bool false,.string ⟨#[]⟩,.string ⟨#[]⟩],.struct [(37,0,"A"),(37,6,"B"),(37,12,"C")],false⟩∧
 tyOf prog 63=some ⟨1,8,[.nilFunc],.one,false⟩∧
 tyOf prog 65=some ⟨1,8,[.nilFunc],.one,false⟩∧
 tyOf prog 66=some ⟨1,8,[.nilFunc],.one,false⟩∧
 tyOf prog 67=some ⟨1,8,[.nilFunc],.one,false⟩∧
 tyOf prog 68=some ⟨1,8,[.nilFunc],.one,false⟩∧
 tyOf prog 69=some ⟨1,8,[.nilFunc],.one,false⟩∧
 tyOf prog 70=some ⟨1,8,[.nilFunc],.one,false⟩∧
 tyOf prog 71=some ⟨1,8,[.nilFunc],.one,false⟩∧
 tyOf prog 72=some ⟨1,24,[.slice none 0 0],.slice 77,false⟩∧
 tyOf prog 74=some ⟨1,8,[.nilFunc],.one,false⟩∧
 tyOf prog 75=some ⟨1,24,[.slice none 0 0],.slice 3,false⟩∧
 tyOf prog 76=some ⟨2,16,[.int .i64 0,.int .i64 0],.struct [(3,0,"A"),(3,1,"B")],false⟩∧
 tyOf prog 77=some ⟨2,16,[.int .i64 0,.int .i64 0],.struct [(3,0,"A"),(3,1,"B")],false⟩∧
 tyOf prog 78=some ⟨1,8,[.nilFunc],.one,false⟩∧
 tyOf prog 79=some ⟨1,8,[.nilFunc],.one,false⟩∧
 tyOf prog 80=some ⟨1,8,[.nilFunc],.one,false⟩∧
 tyOf prog 81=some ⟨1,8,[.nilFunc],.one,false⟩∧
 tyOf prog 82=some ⟨1,8,[.nilFunc],.one,false⟩∧
 tyOf prog 83=some ⟨1,8,[.nilFunc],.one,false⟩∧
 tyOf prog 84=some ⟨1,8,[.nilFunc],.one,false⟩∧
 tyOf prog 85=some ⟨1,8,[.nilFunc],.one,false⟩∧
 tyOf prog 86=some ⟨1,8,[.nilFunc],.one,false⟩∧
 tyOf prog 87=some ⟨1,8,[.nilFunc],.one,false⟩∧
 tyOf prog 88=some ⟨1,8,[.nilFunc],.one,false⟩∧
 tyOf prog 89=some ⟨1,8,[.nilFunc],.one,false⟩∧
 tyOf prog 91=some ⟨1,8,[.nilFunc],.one,false⟩∧
 tyOf prog 92=some ⟨1,8,[.nilFunc],.one,false⟩∧
 tyOf prog 93=some ⟨1,8,[.nilFunc],.one,false⟩∧
 tyOf prog 94=some ⟨1,8,[.nilFunc],.one,false⟩∧
 tyOf prog 95=some ⟨1,8,[.nilFunc],.one,false⟩∧
 tyOf prog 96=some ⟨1,8,[.nilFunc],.one,false⟩∧
 tyOf prog 97=some ⟨1,8,[.nilFunc],.one,false⟩∧
 tyOf prog 99=some ⟨1,8,[.nilFunc],.one,false⟩∧
 tyOf prog 100=some ⟨1,8,[.nilFunc],.one,false⟩∧
 tyOf prog 101=some ⟨1,8,[.nilFunc],.one,false⟩∧
 tyOf prog 102=some ⟨1,8,[.nilFunc],.one,false⟩∧
 tyOf prog 103=some ⟨1,8,[.nilFunc],.one,false⟩∧
 tyOf prog 104=some ⟨1,8,[.nilFunc],.one,false⟩∧
 tyOf prog 105=some ⟨1,8,[.nilFunc],.one,false⟩∧
 tyOf prog 106=some ⟨1,8,[.nilFunc],.one,false⟩∧
 tyOf prog 108=some ⟨1,8,[.nilFunc],.one,false⟩∧
 tyOf prog 109=some ⟨1,8,[.nilFunc],.one,false⟩∧
 tyOf prog 110=some ⟨1,8,[.nilFunc],.one,false⟩∧
 tyOf prog 111=some ⟨1,8,[.nilFunc],.one,false⟩∧
 tyOf prog 112=some ⟨1,8,[.nilFunc],.one,false⟩∧
 tyOf prog 113=some ⟨1,8,[.nilFunc],.one,false⟩∧
 tyOf prog 114=some ⟨1,8,[.nilFunc],.one,false⟩∧
 tyOf prog 115=some ⟨1,8,[.nilFunc],.one,false⟩∧
 tyOf prog 116=some ⟨1,8,[.nilFunc],.one,false⟩∧
 tyOf prog 117=some ⟨1,8,[.nilFunc],.one,false⟩∧
 tyOf prog 118=some ⟨1,24,[.slice none 0 0],.slice 35,false⟩∧
 tyOf prog 119=some ⟨1,8,[.nilFunc],.one,false⟩∧
 tyOf prog 120=some ⟨1,8,[.nilFunc],.one,false⟩∧
 tyOf prog 121=some ⟨1,8,[.nilFunc],.one,false⟩∧
 tyOf prog 122=some ⟨1,8,[.nilFunc],.one,false⟩∧
 tyOf prog 123=some ⟨1,8,[.nilFunc],.one,false⟩∧
 tyOf prog 124=some ⟨1,8,[.nilFunc],.one,false⟩∧
 tyOf prog 125=some ⟨1,8,[.nilFunc],.one,false⟩∧
 tyOf prog 126=some ⟨2,24,[.bool false,.string ⟨#[]⟩],.struct [(4,0,"Neg"),(9,1,"Mag")],false⟩∧
 tyOf prog 127=some ⟨2,24,[.bool false,.string ⟨#[]⟩],.struct [(4,0,"Neg"),(9,1,"Mag")],false⟩∧
 tyOf prog 128=some ⟨1,8,[.nilFunc],.one,false⟩∧
 tyOf prog 129=some ⟨1,24,[.slice none 0 0],.slice 28,false⟩∧
 tyOf prog 130=some ⟨1,8,[.nilFunc],.one,false⟩∧
 tyOf prog 131=some ⟨1,8,[.nilFunc],.one,false⟩∧
 tyOf prog 132=some ⟨1,8,[.nilFunc],.one,false⟩∧
 tyOf prog 133=some ⟨1,8,[.int .u64 0],.int .u64,false⟩∧
 tyOf prog 134=some ⟨1,8,[.nilFunc],.one,false⟩∧
 tyOf prog 135=some ⟨1,8,[.nilFunc],.one,false⟩∧
 tyOf prog 136=some ⟨1,8,[.nilFunc],.one,false⟩∧
 tyOf prog 137=some ⟨1,8,[.nilFunc],.one,false⟩∧
 tyOf prog 138=some ⟨1,8,[.nilFunc],.one,false⟩∧
 tyOf prog 139=some ⟨1,8,[.nilFunc],.one,false⟩∧
 tyOf prog 140=some ⟨1,8,[.nilFunc],.one,false⟩∧
 tyOf prog 141=some ⟨1,8,[.nilFunc],.one,false⟩∧
 tyOf prog 142=some ⟨1,8,[.nilFunc],.one,false⟩∧
 tyOf prog 143=some ⟨1,8,[.nilFunc],.one,false⟩∧
 tyOf prog 144=some ⟨1,8,[.nilFunc],.one,false⟩∧
 tyOf prog 145=some ⟨1,8,[.nilFunc],.one,false⟩∧
 tyOf prog 146=some ⟨1,8,[.nilFunc],.one,false⟩∧
 tyOf prog 147=some ⟨1,8,[.nilFunc],.one,false⟩∧
 tyOf prog 148=some ⟨1,8,[.nilFunc],.one,false⟩∧
 tyOf prog 149=some ⟨1,8,[.nilFunc],.one,false⟩∧
 tyOf prog 150=some ⟨4,48,[.bool false,.string ⟨#[]⟩,.bool false,.string ⟨#[]⟩],.struct [(127,0,"n"),(127,2,"d")],false⟩∧
 tyOf prog 151=some ⟨4,48,[.bool false,.string ⟨#[]⟩,.bool false,.string ⟨#[]⟩],.struct [(127,0,"n"),(127,2,"d")],false⟩∧
 tyOf prog 152=some ⟨1,8,[.nilFunc],.one,false⟩∧
 tyOf prog 153=some ⟨1,8,[.nilFunc],.one,false⟩∧
 tyOf prog 154=some ⟨1,8,[.nilFunc],.one,false⟩∧
 tyOf prog 155=some ⟨1,8,[.nilFunc],.one,false⟩∧
 tyOf prog 156=some ⟨1,8,[.nilFunc],.one,false⟩∧
 tyOf prog 157=some ⟨1,8,[.nilFunc],.one,false⟩∧
 tyOf prog 158=some ⟨1,8,[.nilFunc],.one,false⟩∧
 tyOf prog 159=some ⟨1,8,[.nilFunc],.one,false⟩∧
 tyOf prog 160=some ⟨1,8,[.nilFunc],.one,false⟩∧
 tyOf prog 161=some ⟨1,8,[.nilFunc],.one,false⟩∧
 tyOf prog 162=some ⟨1,8,[.nilFunc],.one,false⟩∧
 tyOf prog 163=some ⟨1,8,[.nilFunc],.one,false⟩∧
 tyOf prog 164=some ⟨1,8,[.nilFunc],.one,false⟩∧
 tyOf prog 165=some ⟨1,8,[.nilFunc],.one,false⟩∧
 tyOf prog 166=some ⟨1,8,[.nilFunc],.one,false⟩∧
 tyOf prog 167=some ⟨1,8,[.nilFunc],.one,false⟩∧
 tyOf prog 168=some ⟨1,8,[.nilFunc],.one,false⟩∧
 tyOf prog 169=some ⟨1,8,[.nilFunc],.one,false⟩∧
 tyOf prog 170=some ⟨1,8,[.nilFunc],.one,false⟩∧
 tyOf prog 171=some ⟨1,8,[.nilFunc],.one,false⟩∧
 tyOf prog 172=some ⟨1,8,[.int .u64 0],.int .u64,false⟩∧
 tyOf prog 173=some ⟨1,8,[.nilFunc],.one,false⟩∧
 tyOf prog 174=some ⟨1,4,[.int .u32 0],.int .u32,false⟩∧
 tyOf prog 175=some ⟨1,24,[.slice none 0 0],.slice 174,false⟩∧
 tyOf prog 176=some ⟨1,24,[.slice none 0 0],.slice 174,false⟩∧
 tyOf prog 177=some ⟨1,8,[.nilFunc],.one,false⟩∧
 tyOf prog 180=some ⟨1,8,[.nilFunc],.one,false⟩∧
 tyOf prog 181=some ⟨1,8,[.nilFunc],.one,false⟩∧
 tyOf prog 182=some ⟨1,8,[.nilFunc],.one,false⟩∧
 tyOf prog 184=some ⟨1,8,[.nilFunc],.one,false⟩∧
 tyOf prog 185=some ⟨1,8,[.nilFunc],.one,false⟩∧
 tyOf prog 186=some ⟨1,8,[.nilFunc],.one,false⟩∧
 tyOf prog 187=some ⟨1,8,[.nilFunc],.one,false⟩∧
 tyOf prog 188=some ⟨1,8,[.nilFunc],.one,false⟩∧
 tyOf prog 189=some ⟨1,8,[.nilFunc],.one,false⟩∧
 tyOf prog 190=some ⟨1,8,[.nilFunc],.one,false⟩∧
 tyOf prog 191=some ⟨1,8,[.nilFunc],.one,false⟩∧
 tyOf prog 192=some ⟨1,8,[.nilFunc],.one,false⟩∧
 tyOf prog 193=some ⟨1,8,[.nilFunc],.one,false⟩∧
 tyOf prog 195=some ⟨1,8,[.nilFunc],.one,false⟩∧
 tyOf prog 196=some ⟨1,8,[.nilFunc],.one,false⟩∧
 tyOf prog 197=some ⟨1,8,[.nilFunc],.one,false⟩∧
 tyOf prog 198=some ⟨1,8,[.nilFunc],.one,false⟩∧
 tyOf prog 199=some ⟨1,8,[.nilFunc],.one,false⟩∧
 tyOf prog 200=some ⟨1,8,[.nilFunc],.one,false⟩∧
 tyOf prog 201=some ⟨1,8,[.nilFunc],.one,false⟩∧
 tyOf prog 202=some ⟨1,8,[.nilFunc],.one,false⟩∧
 tyOf prog 203=some ⟨1,8,[.nilFunc],.one,false⟩∧
 tyOf prog 204=some ⟨1,8,[.nilFunc],.one,false⟩∧
 tyOf prog 205=some ⟨1,8,[.nilFunc],.one,false⟩∧
 tyOf prog 206=some ⟨1,8,[.nilFunc],.one,false⟩∧
 tyOf prog 207=some ⟨1,8,[.nilFunc],.one,false⟩∧
 tyOf prog 208=some ⟨1,8,[.nilFunc],.one,false⟩∧
 tyOf prog 209=some ⟨1,8,[.nilFunc],.one,false⟩∧
 tyOf prog 211=some ⟨1,8,[.nilFunc],.one,false⟩∧
 tyOf prog 212=some ⟨1,8,[.nilFunc],.one,false⟩∧
 tyOf prog 213=some ⟨1,8,[.nilFunc],.one,false⟩∧
 tyOf prog 214=some ⟨1,8,[.nilFunc],.one,false⟩∧
 tyOf prog 215=some ⟨1,8,[.nilFunc],.one,false⟩∧
 tyOf prog 217=some ⟨1,8,[.nilFunc],.one,false⟩∧
 tyOf prog 218=some ⟨1,8,[.nilFunc],.one,false⟩∧
 tyOf prog 219=some ⟨1,8,[.nilFunc],.one,false⟩∧
 tyOf prog 221=some ⟨1,8,[.nilFunc],.one,false⟩∧
 tyOf prog 222=some ⟨1,8,[.nilFunc],.one,false⟩∧
 tyOf prog 223=some ⟨1,8,[.nilFunc],.one,false⟩∧
 tyOf prog 224=some ⟨1,8,[.nilFunc],.one,false⟩∧
 tyOf prog 225=some ⟨1,8,[.nilFunc],.one,false⟩∧
 tyOf prog 226=some ⟨1,8,[.nilFunc],.one,false⟩∧
 tyOf prog 227=some ⟨1,8,[.nilFunc],.one,false⟩∧
 tyOf prog 228=some ⟨1,8,[.nilFunc],.one,false⟩∧
 tyOf prog 229=some ⟨1,8,[.nilFunc],.one,false⟩∧
 tyOf prog 230=some ⟨1,8,[.nilFunc],.one,false⟩∧
 tyOf prog 231=some ⟨1,8,[.nilFunc],.one,false⟩∧
 tyOf prog 232=some ⟨1,8,[.nilFunc],.one,false⟩∧
 tyOf prog 234=some ⟨1,8,[.nilFunc],.one,false⟩∧
 tyOf prog 235=some ⟨1,8,[.nilFunc],.one,false⟩∧
 tyOf prog 236=some ⟨1,8,[.nilFunc],.one,false⟩∧
 tyOf prog 237=some ⟨1,8,[.nilFunc],.one,false⟩∧
 tyOf prog 239=some ⟨1,8,[.nilFunc],.one,false⟩∧
 tyOf prog 240=some ⟨8,8,[.int .u8 0,.int .u8 0,.int .u8 0,.int .u8 0,.int .u8 0,.int .u8 0,.int .u8 0,.int .u8 0],.array 8 5,false⟩∧
 tyOf prog 241=some ⟨1,24,[.slice none 0 0],.slice 5,false⟩∧
 tyOf prog 243=some ⟨1,8,[.nilFunc],.one,false⟩∧
 tyOf prog 246=some ⟨1,8,[.nilFunc],.one,false⟩∧
 tyOf prog 247=some ⟨1,8,[.nilFunc],.one,false⟩∧
 tyOf prog 248=some ⟨1,8,[.nilFunc],.one,false⟩∧
 tyOf prog 249=some ⟨1,8,[.nilFunc],.one,false⟩∧
 tyOf prog 250=some ⟨1,8,[.nilFunc],.one,false⟩∧
 tyOf prog 251=some ⟨1,8,[.nilFunc],.one,false⟩∧
 tyOf prog 252=some ⟨1,8,[.nilFunc],.one,false⟩∧
 tyOf prog 253=some ⟨1,8,[.nilFunc],.one,false⟩∧
 tyOf prog 255=some ⟨1,8,[.nilFunc],.one,false⟩∧
 tyOf prog 256=some ⟨1,8,[.nilFunc],.one,false⟩∧
 tyOf prog 257=some ⟨1,8,[.nilFunc],.one,false⟩∧
 tyOf prog 258=some ⟨1,8,[.nilFunc],.one,false⟩∧
 tyOf prog 260=some ⟨1,8,[.nilFunc],.one,false⟩∧
 tyOf prog 261=some ⟨8,128,[.string ⟨#[]⟩,.string ⟨#[]⟩,.string ⟨#[]⟩,.string ⟨#[]⟩,.string ⟨#[]⟩,.string ⟨#[]⟩,.string ⟨#[]⟩,.string ⟨#[]⟩],.array 8 9,false⟩∧
 tyOf prog 270=some ⟨1,8,[.nilFunc],.one,false⟩∧
 tyOf prog 273=some ⟨1,8,[.nilFunc],.one,false⟩∧
 tyOf prog 279=some ⟨1,16,[.string ⟨#[]⟩],.struct [(9,0,"s")],false⟩:=by
 and_intros<;>kernel_rfl
theorem RY:type_of%RW∧type_of% @RB∧type_of%RX∧type_of%RE∧type_of%RF∧type_of%RT:=⟨RW,@RB,RX,RE,RF,RT⟩
theorem RZ:type_of%RY∧type_of%RK:=⟨RY,RK⟩
end Go.Av
namespace Go.Av
open Go.RowKit
variable {P:Program} {b i k n:Nat} {R B:Blk} {D:X→Blk} {K:V→Hp→Prop} {T:List V} {H:Hp} {la lb:LC} {Q:Post}
def rdQ (b:Nat) (R B:Blk) (D:X→Blk) (K:V→Hp→Prop):Post:=fun x _ H=>get H b=some B∧K (.prim (.bool (isN x))) (H.set b (some (if isN x then R else D x)))
def bgQ (P:Program) (b:Nat) (lb:LC) (R B:Blk) (D:X→Blk) (K:V→Hp→Prop):Post:=fun x T H=>x= .normal∧get H b=some R∧wpL P lb T (H.set b (some B)) (rdQ b R B D K)
theorem bgQ_normal:bgQ P b lb R B D K .normal T H=(get H b=some R∧wpL P lb T (H.set b (some B)) (rdQ b R B D K)):=by simp [bgQ]
theorem rdQ_normal:rdQ b R B D K .normal T H=(get H b=some B∧K (.prim (.bool true)) (H.set b (some R))):=by simp [rdQ,isN]
theorem rdQ_ret:rdQ b R B D K .ret T H=(get H b=some B∧K (.prim (.bool false)) (H.set b (some (D .ret)))):=by simp [rdQ,isN]
def rfEnd (b:Nat) (R:Blk) (D:X→Blk) (T:List V) (Q:Post):V→Hp→Prop:=fun _ H'=>(get H' b=some R∧Q .normal T (H'.set b none))∨∃ x,get H' b=some (D x)∧Q x T (H'.set b none)
def rfFit (assign body:Code):Bool:=(lite assign).isSome&&(lite body).isSome&&rfOk assign&&rfOk body&&noRF ((lite assign).getD .skip)&&noRF ((lite body).getD .skip)
def lcC (c:Code):LC:=(lite c).getD .skip
theorem yieldT_cons {p:Tmp} {ps:List Tmp} {a:V} {l:List V}:yieldT T (p::ps) (a::l)=yieldT (T.set p a) ps l:=rfl
theorem yieldT_nil {l:List V}:yieldT T [] l=T:=by simp [yieldT]
theorem wp_rf (hm:P.follows .mixedOrders=true) {f:Operand} {ps:Array Tmp} {assign body:Code} {g:FuncId} {first cap:List V} (hf:ev T f= .clo g first cap) (hn:H.length=n) (hk:ps.size=k) (hfit:rfFit assign body=true)
 (h:∀ (R B:Blk) (D:X→Blk),(∀ s m es,R≠ .row s m es)→(∀ args H' K,args.length=k→get H' n=some R→wpL P (lcC assign) (yieldT T ps.toList args) H' (bgQ P n (lcC body) R B D K)→YC P n args H' K)→
  SC P g (first++[.yld n]++cap) (H++[some R]) (rfEnd n R D T Q)):wpL P (.rangeFunc f ps assign body) T H Q:=by
 subst hn
 unfold rfFit at hfit
 simp only [Bool.and_eq_true] at hfit
 obtain ⟨⟨⟨⟨⟨h1,h2⟩,h3⟩,h4⟩,h5⟩,h6⟩:=hfit
 obtain ⟨la,h1⟩:=Option.isSome_iff_exists.1 h1
 obtain ⟨lb,h2⟩:=Option.isSome_iff_exists.1 h2
 unfold lcC at h
 rw [h1,h2] at h
 rw [h1] at h5
 rw [h2] at h6
 simp only [Option.getD_some] at h h5 h6
 unfold wpL
 rw [hf]
 refine SC.mono ?_ (h (.loop ⟨.ready,none,T,ps,assign,body⟩) (.loop ⟨.busy,none,T,ps,assign,body⟩) (fun x=> .loop ⟨.done,xJump x,T,ps,assign,body⟩) (fun _ _ _ h=>by cases h) ?_)
 ·rintro _ H' (⟨hg,hq⟩|⟨x,hg,hq⟩)
  ·simp only [hg];exact ⟨by simp,hq⟩
  ·simp only [hg]
   refine ⟨by simp,?_⟩
   cases x<;>exact hq
 ·intro args H' K hlen hg hw
  refine YC_intro hm hg (by rw [hlen];exact hk.symm) h1 h2 h3 h4 h5 h6 (wpL_mono la ?_ hw)
  rintro x T2 H2 ⟨rfl,hg2,hb⟩
  unfold beginQ
  simp only [hg2]
  refine ⟨trivial,wpL_mono lb ?_ hb⟩
  rintro x T3 H3 ⟨hg3,hk⟩
  unfold roundQ
  simp only [hg3]
  cases x<;>exact hk
def Bufn (n0:Nat) (H:Hp) (v:V) (sz:Nat) (es:List (List V)):Prop:=
 n0≤H.length∧((es=[]∧v= .prim (.slice none 0 0))∨∃ b,n0≤b∧v= .sref b 0 es.length es.length sz false∧get H b=some (.row sz true es))
theorem Bufn.nil {n0 sz:Nat} (h:n0≤H.length):Bufn n0 H (.prim (.slice none 0 0)) sz []:=⟨h,.inl ⟨rfl,rfl⟩⟩
theorem Bufn.one {n0 sz:Nat} {v:V} {es:List (List V)} (h:Bufn n0 H v sz es):v.cells=[v]:=by
 rcases h.2 with ⟨_,rfl⟩|⟨b,_,rfl,_⟩<;>rfl
theorem Bufn.cel {n0 sz:Nat} {v:V} {es:List (List V)} (h:Bufn n0 H v sz es):cellV v=true:=by
 rcases h.2 with ⟨_,rfl⟩|⟨b,_,rfl,_⟩<;>rfl
theorem Bufn.app {n0 sz:Nat} {v:V} {es:List (List V)} (h:Bufn n0 H v sz es) (l:Hp):Bufn n0 (H++l) v sz es:=by
 refine ⟨by have:=h.1;rw [List.length_append];omega,?_⟩
 rcases h.2 with h|⟨b,h0,h1,h2⟩
 ·exact .inl h
 ·exact .inr ⟨b,h0,h1,get_app h2⟩
theorem Bufn.set {n0 sz c:Nat} {v:V} {es:List (List V)} {x:Option Blk} (h:Bufn n0 H v sz es) (hc:c<n0):Bufn n0 (H.set c x) v sz es:=by
 refine ⟨by rw [List.length_set];exact h.1,?_⟩
 rcases h.2 with h|⟨b,h0,h1,h2⟩
 ·exact .inl h
 ·exact .inr ⟨b,h0,h1,by rw [get_set_ne (by omega)];exact h2⟩
theorem Bufn.le {n0 n1 sz:Nat} {v:V} {es:List (List V)} (h:Bufn n0 H v sz es) (hc:n1≤n0):Bufn n1 H v sz es:=by
 refine ⟨by have:=h.1;omega,?_⟩
 rcases h.2 with h|⟨b,h0,h1,h2⟩
 ·exact .inl h
 ·exact .inr ⟨b,by omega,h1,h2⟩
theorem Bufn.append {n0:Nat} {v:V} {ei:TyI} {es ys:List (List V)} (h:Bufn n0 H v ei.sz es) (hy:∀ y∈ys,∀ v∈y,cellV v=true) (h1:(es.length+ys.length)*ei.bytes≤2^47) (h2:es.length+ys.length≤2^60)
 (hK:∀ v' H',Bufn n0 H' v' ei.sz (es++ys)→(∀ b k,b<n0→get H b=some k→get H' b=some k)→K v' H'):wpAppend P H ei v ys K:=by
 have hN:=h.1
 refine ⟨hy,?_⟩
 rcases h.2 with ⟨rfl,rfl⟩|⟨b,hb,rfl,hg⟩
 ·simp only [List.length_nil,Nat.zero_add] at h1 h2
  refine ⟨fun e=>hK _ _ (by subst e;exact ⟨hN,.inl ⟨rfl,rfl⟩⟩) (fun _ _ _ h=>h),fun _=>⟨h1,h2,hK _ _ ⟨by rw [List.length_append];omega,.inr ⟨H.length,hN,by simp,by rw [get_app_len];simp⟩⟩ (fun _ _ _ h=>get_app h)⟩⟩
 ·simp only [hg]
  refine ⟨trivial,by omega,?_⟩
  rcases Nat.eq_zero_or_pos ys.length with h0|h0
  ·left
   have:ys=[]:=List.length_eq_zero_iff.1 h0
   subst this
   refine ⟨by simp,by simp,trivial,?_⟩
   have e:splice es (0+es.length) []=es:=by simp [splice]
   rw [e]
   have e2:H.set b (some (.row ei.sz true es))=H:=by
    refine List.ext_getElem? fun c=> ?_
    rw [List.getElem?_set]
    split
    ·rename_i hc
     subst hc
     have:=get_lt hg
     rw [if_pos this]
     simp only [get,List.getElem?_eq_getElem this,Option.join_some] at hg ⊢
     rw [hg]
    ·rfl
   rw [e2]
   exact hK _ _ ⟨hN,.inr ⟨b,hb,by simp,by simpa using hg⟩⟩ (fun _ _ _ h=>h)
  ·right;right
   have hl:(H.set b none).length=H.length:=by simp
   refine ⟨by simp,by simp,h1,h2,hK _ _ ⟨by rw [List.length_append,hl];omega,.inr ⟨H.length,hN,by simp,?_⟩⟩ ?_⟩
   ·rw [←hl,get_app_len];simp
   ·intro c k hc hg'
    refine get_app ?_
    rw [get_set_ne (by omega)];exact hg'
def Prims (es:List (List V)):Prop:=∀ e∈es,∀ v∈e,∃ x,v= .prim x
theorem viewL_prims {n:Nat}:∀ (e:List V),(∀ v∈e,∃ x,v= .prim x)→view.viewL H (n+1) e=some e
 |[],_=>by simp [view.viewL]
 |v::e,h=>by
  obtain ⟨x,rfl⟩:=h v (List.mem_cons_self ..)
  unfold view.viewL
  rw [viewL_prims e (fun v hv=>h v (List.mem_cons_of_mem _ hv))]
  simp [view]
theorem viewLL_prims {n:Nat}:∀ (es:List (List V)),Prims es→view.viewLL H (n+1) es=some es
 |[],_=>by simp [view.viewLL]
 |e::es,h=>by
  unfold view.viewLL
  rw [viewL_prims e (h e (List.mem_cons_self ..)),viewLL_prims es (fun e he=>h e (List.mem_cons_of_mem _ he))]
theorem Bufn.view {n0 n sz:Nat} {v:V} {es:List (List V)} (h:Bufn n0 H v sz es) (hp:Prims es) (hne:es≠[]):view H (n+2) v=some (.lst sz es):=by
 rcases h.2 with ⟨h,_⟩|⟨b,_,rfl,h2⟩
 ·exact absurd h hne
 ·unfold Av.view
  simp only [h2]
  rw [if_pos (by omega),List.drop_zero,List.take_length,viewLL_prims es hp]
  rfl
theorem Bufn.cases {n0 sz:Nat} {v:V} {es:List (List V)} (h:Bufn n0 H v sz es) (hne:es≠[]):∃ b,n0≤b∧v= .sref b 0 es.length es.length sz false∧get H b=some (.row sz true es):=by
 rcases h.2 with ⟨h,_⟩|h
 ·exact absurd h hne
 ·exact h
theorem get_app1 {c:Nat} {a:Option Blk} (h:c<H.length):get (H++[a]) c=get H c:=by unfold get;rw [List.getElem?_append_left h]
theorem get_app2 {c:Nat} {a b:Option Blk} (h:c<H.length):get (H++[a]++[b]) c=get H c:=by rw [get_app1 (by rw [List.length_append];omega),get_app1 h]
theorem get_app_len2 {a b:Option Blk}:get (H++[a]++[b]) H.length=a:=by rw [get_app1 (by rw [List.length_append];exact Nat.lt_succ_self _)];exact get_app_len
theorem set_app_len2 {a b x:Option Blk}:(H++[a]++[b]).set H.length x=H++[x]++[b]:=by simp
theorem get_ne {b c:Nat} {k:Option Blk} (h:c≠b):get (H.set b k) c=get H c:=get_set_ne h
theorem get_eq {b:Nat} {k:Option Blk} (h:b<H.length):get (H.set b k) b=k:=by simp [get,h]
theorem two_more {H:Hp} {b:Nat} {x y z:Option Blk} (hb:b<H.length):∃ H1,(H++[x]++[y]).set b z=H1∧(∀ c,c<H.length→c≠b→get H1 c=get H c)∧get H1 b=z∧get H1 H.length=x∧get H1 (H++[x]).length=y∧H.length+2=H1.length:=by
 refine ⟨_,rfl,?_,?_,?_,?_,?_⟩
 ·intro c hc hne;rw [get_ne hne,get_app2 hc]
 ·rw [get_eq];rw [List.length_append,List.length_append];omega
 ·rw [get_ne (by omega),get_app_len2]
 ·rw [get_ne (by rw [List.length_append];omega),get_app_len]
 ·rw [List.length_set,List.length_append,List.length_append];rfl
theorem one_more {H:Hp} {b:Nat} {x z:Option Blk} (hb:b<H.length):∃ H1,(H++[x]).set b z=H1∧(∀ c,c<H.length→c≠b→get H1 c=get H c)∧get H1 b=z∧get H1 H.length=x∧H.length+1=H1.length:=by
 refine ⟨_,rfl,?_,?_,?_,?_⟩
 ·intro c hc hne;rw [get_ne hne,get_app1 hc]
 ·rw [get_eq];rw [List.length_append];omega
 ·rw [get_ne (by omega),get_app_len]
 ·rw [List.length_set,List.length_append];rfl
theorem get_lt_len {b:Nat} {k:Blk} (h:get H b=some k):b<H.length:=by
 rcases Nat.lt_or_ge b H.length with h1|h1
 ·exact h1
 ·rw [get,List.getElem?_eq_none h1] at h;cases h
structure Ext (H H':Hp):Prop where
 len:H.length≤H'.length
 get:∀ {c k},get H c=some k→get H' c=some k
theorem Ext.refl:Ext H H:=⟨Nat.le_refl _,id⟩
theorem Ext.app (l:Hp):Ext H (H++l):=⟨by rw [List.length_append];omega,get_app⟩
theorem Ext.trans {H' H'':Hp} (h:Ext H H') (k:Ext H' H''):Ext H H'':=⟨Nat.le_trans h.len k.len,fun g=>k.get (h.get g)⟩
theorem Ext.buf {H':Hp} {n0 sz:Nat} {v:V} {es:List (List V)} (he:Ext H H') (h:Bufn n0 H v sz es):Bufn n0 H' v sz es:=by
 refine ⟨Nat.le_trans h.1 he.len,?_⟩
 rcases h.2 with h|⟨b,h0,h1,h2⟩
 ·exact .inl h
 ·exact .inr ⟨b,h0,h1,he.get h2⟩
def yQ (A F:Hp→Prop):V→Hp→Prop:=fun v H=>(v= .prim (.bool true)∧A H)∨(v= .prim (.bool false)∧F H)
end Go.Av
